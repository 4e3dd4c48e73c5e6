/- A part of the proof of the law: what functions of the program come to, walked by Rx, or plain facts on it. -/
import Derived.Test.YtaghcidejnhahaaRFlow2
open Go Go.Rx Go.Proofs Go.Rx12 Go.RxTree
set_option maxRecDepth 1000000
set_option maxHeartbeats 4000000
set_option linter.unusedVariables false
set_option linter.unusedSimpArgs false
namespace Go.Rx12
theorem leave_o (id : List UInt8) (ps : List PlaceT) (n : Nat) (hn : n ≤ 4096) (hps : ps.length = n) (w : Wk) (hl : w.Len n) (i : Nat) (hi : i < n) (p : PlaceT) (hp : ps[i]? = some p) (ho : outsOk p.out n) (hol : p.out.length ≤ maxLen) (hmu : w.mu ≤ n)
    (hf : 0 ≤ getI w.fork i ∧ getI w.fork i < (n : Int)) (hd : -5000 ≤ getI w.deep i ∧ getI w.deep i ≤ 16) (g8 : p.kind ≠ 8) (g4 : p.kind ≠ 4) (g5 : p.kind ≠ 5) (k : Nat) (hk : p.out.length + 20 < k) :
    ∃ v, (v = 0 ∨ v = 1) ∧ icall Try.prog cfg k 29 [.ptr (.arg 0) 0, .d (.int .i64 (i : Int))] (wkW id (ps.map PlaceT.cells) n 0 w) = some (.ret (.tuple []), wkW id (ps.map PlaceT.cells) n v (leaveS p w i)) := by
  obtain ⟨l1, l2, l3, l4, l5⟩ := hl
  have hl : w.Len n := ⟨l1, l2, l3, l4, l5⟩
  have hpg := place_get hp
  obtain ⟨f, hfe⟩ : ∃ f : Nat, getI w.fork i = (f : Int) := ⟨(getI w.fork i).toNat, by omega⟩
  have a1 := iC_get (getI_some (l := w.fork) (i := i) (by omega))
  have a2 := iC_get (getI_some (l := w.deep) (i := i) (by omega))
  rw [hfe] at a1
  have a3 := iC_get (getI_some (l := w.join) (i := f) (by omega))
  have a4 := iC_get (getI_some (l := w.up) (i := f) (by omega))
  have a5 := iC_get (getI_some (l := w.up) (i := i) (by omega))
  have hw1 : IntKind.i64.wrap (getI w.deep i + 1) = getI w.deep i + 1 := wrap_i64 (by omega) (by omega)
  have hw2 : IntKind.i64.wrap (getI w.deep i - 1) = getI w.deep i - 1 := wrap_i64 (by omega) (by omega)
  unfold leaveS
  rw [hfe]
  obtain ⟨me, fo, de, jo, up, nx, e⟩ := w
  obtain ⟨kd, nm, nv, ar, ou⟩ := p
  dsimp only at *
  generalize getI de i = dp at *
  have hf8 := fail_all id (ps.map PlaceT.cells) n (bC me) (iC fo) (iC de) (iC jo) (iC up) nx.length (iC nx) e 8
  obtain ⟨k, rfl⟩ : ∃ j, k = j + 1 := ⟨k - 1, by omega⟩
  replace hf8 := hf8 k (by omega)
  rw [if_neg g8, if_neg g4, if_neg g5]
  obtain ⟨v', b1, hL⟩ := leaveL k (by omega) id (ps.map PlaceT.cells) n hn ou hol ho (f : Int) dp rfl ou.length 0 0 0 ⟨me, fo, de, jo, up, nx, e⟩ (by omega) (by omega) rfl (.inl rfl) ⟨l1, l2, l3, l4, l5⟩ hmu
  refine ⟨v', b1, ?_⟩
  simp only [lvS, wkW, ← iC_set] at hL
  rw [icall_body rfl Try.func29]
  obtain ⟨lp, hlp⟩ : ∃ lp, lp = lpOf Try.prog cfg (icall Try.prog cfg k) Try.f29.ntmps 29 k ((wkW id (ps.map PlaceT.cells) n 0 ⟨me, fo, de, jo, up, nx, e⟩).map (·.1)) := ⟨_, rfl⟩
  rw [← hlp]
  rw [← (show lp = lpOf Try.prog cfg (icall Try.prog cfg k) Try.f29.ntmps 29 k wkP from hlp)] at hL
  conv => lhs; whnf
  refine nextK_of (aop_ix rfl rfl rfl rfl (ixL_at' (n := i) rfl hpg rfl)) ?_
  conv => lhs; whnf
  refine iteO_t (by kernel_rfl) ?_
  conv => lhs; whnf
  refine nextK_of (aop_ixO (i := i) rfl rfl rfl rfl rfl rfl (by omega)) ?_
  conv => lhs; whnf
  refine nextK_of (aop_ldE1 rfl rfl a1 rfl rfl rfl) ?_
  conv => lhs; whnf
  refine nextK_of (aop_ixO (i := i) rfl rfl rfl rfl rfl rfl (by omega)) ?_
  conv => lhs; whnf
  refine nextK_of (aop_ldE1 rfl rfl a2 rfl rfl rfl) ?_
  conv => lhs; whnf
  refine iteO_t (by kernel_rfl) ?_
  conv => lhs; whnf
  refine iteK_beq_f g8 ?_
  conv => lhs; whnf
  refine iteK_beq_f g4 ?_
  conv => lhs; whnf
  refine iteK_beq_f g5 ?_
  conv => lhs; whnf
  refine nextK_of (loop_at hlp (hL k _ (by omega) rfl)) ?_
  conv => lhs; whnf
  exact finX id (ps.map PlaceT.cells) n v' (outsS ⟨me, fo, de, jo, up, nx, e⟩ (List.drop 0 ou) (f : Int) dp) b1
end Go.Rx12
