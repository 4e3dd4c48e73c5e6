/- A part of the proof of the law: what functions of the program come to, walked by Rx, or plain facts on it. -/
import Derived.Test.YtaghcidejnhahaaRFlow0
open Go Go.Rx Go.Proofs Go.Rx12 Go.RxTree
set_option maxRecDepth 1000000
set_option maxHeartbeats 4000000
set_option linter.unusedVariables false
set_option linter.unusedSimpArgs false
namespace Go.Rx12
abbrev lvS (v n : Nat) (id : List UInt8) (pl : List (List D)) (f dp z : Int) (l : List FlowT) (w : Wk) : St := ⟨[(0, .ptr (.arg 0) 0), (5, .d (.int .i64 f)), (6, .d (.int .i64 dp)), (100, .d (.list (l.map FlowT.cells))), (101, .d (.int .i64 (l.map FlowT.cells).length)), (102, .d (.int .i64 z))], wkW id pl n v w⟩
abbrev wkP : List Nm := [.arg 0, .cell (.arg 0) 2, .cell (.arg 0) 3, .cell (.arg 0) 4, .cell (.arg 0) 5, .cell (.arg 0) 6, .cell (.arg 0) 7]
theorem leaveL (j : Nat) (hj : 10 < j) (id : List UInt8) (pl : List (List D)) (n : Nat) (hn : n ≤ 4096) (l : List FlowT) (hlm : l.length ≤ maxLen) (ho : outsOk l n) (f dp : Int) {lp : LP} (hlp : lp = lpOf Try.prog cfg (icall Try.prog cfg j) Try.f29.ntmps 29 j wkP) :
    ∀ (m i : Nat) (z : Int) (v : Nat) (w : Wk), l.length - i = m → i ≤ l.length → z = (i : Int) → (v = 0 ∨ v = 1) → w.Len n → w.mu ≤ n →
    ∃ v', (v' = 0 ∨ v' = 1) ∧ ∀ (lf : Nat) (st : St), m < lf → prune wkP [0, 5, 6, 100, 101, 102] st = some (lvS v n id pl f dp z l w) →
      loopK Try.prog cfg (icall Try.prog cfg j) lp Try.f29.ntmps 29 wkP (bodyAt Try.f29 15) lf st (exitP wkP (some [])) = some (.exit 1, ⟨[], wkW id pl n v' (outsS w (l.drop i) f dp)⟩) := by
  intro m
  induction m with
  | zero =>
    intro i z v w hi hle hz hv hw hmu
    refine ⟨v, hv, fun lf st hlf hp => ?_⟩
    obtain ⟨lf, rfl⟩ : ∃ n, lf = n + 1 := ⟨lf - 1, by omega⟩
    have hend : ¬ z < ((l.map FlowT.cells).length : Int) := by rw [List.length_map]; omega
    rw [List.drop_eq_nil_of_le (by omega), outsS]
    refine loop_step hp ?_
    rcases hv with rfl | rfl
    · conv => lhs; whnf
      refine iteK_dec_f hend ?_
      conv => lhs; whnf
      refine Eq.trans (b := some (Fx.exit (1 : Nat), St.mk [] [(Nm.arg (0 : Nat), AObj.cells [AV.d (D.str id), AV.d (D.list pl), AV.own (Nm.cell (Nm.arg (0 : Nat)) (2 : Nat)) (0 : Nat) n, AV.own (Nm.cell (Nm.arg (0 : Nat)) (3 : Nat)) (0 : Nat) n, AV.own (Nm.cell (Nm.arg (0 : Nat)) (4 : Nat)) (0 : Nat) n, AV.own (Nm.cell (Nm.arg (0 : Nat)) (5 : Nat)) (0 : Nat) n, AV.own (Nm.cell (Nm.arg (0 : Nat)) (6 : Nat)) (0 : Nat) n, AV.own (Nm.cell (Nm.arg (0 : Nat)) (7 : Nat)) (0 : Nat) (List.length w.next), AV.d (D.int IntKind.i64 w.err)]), (Nm.cell (Nm.arg (0 : Nat)) (2 : Nat), AObj.arr (4 : Nat) (1 : Nat) (0 : Nat) (bC w.met)), (Nm.cell (Nm.arg (0 : Nat)) (3 : Nat), AObj.arr (3 : Nat) (1 : Nat) (0 : Nat) (iC w.fork)), (Nm.cell (Nm.arg (0 : Nat)) (4 : Nat), AObj.arr (3 : Nat) (1 : Nat) (0 : Nat) (iC w.deep)), (Nm.cell (Nm.arg (0 : Nat)) (5 : Nat), AObj.arr (3 : Nat) (1 : Nat) (0 : Nat) (iC w.join)), (Nm.cell (Nm.arg (0 : Nat)) (6 : Nat), AObj.arr (3 : Nat) (1 : Nat) (0 : Nat) (iC w.up)), (Nm.cell (Nm.arg (0 : Nat)) (7 : Nat), AObj.arr (3 : Nat) (1 : Nat) (0 : Nat) (iC w.next))])) (by kernel_rfl) ?_
      rfl
    · conv => lhs; whnf
      refine iteK_dec_f hend ?_
      conv => lhs; whnf
      refine Eq.trans (b := some (Fx.exit (1 : Nat), St.mk [] [(Nm.arg (0 : Nat), AObj.cells [AV.d (D.str id), AV.d (D.list pl), AV.own (Nm.cell (Nm.arg (0 : Nat)) (2 : Nat)) (0 : Nat) n, AV.own (Nm.cell (Nm.arg (0 : Nat)) (3 : Nat)) (0 : Nat) n, AV.own (Nm.cell (Nm.arg (0 : Nat)) (4 : Nat)) (0 : Nat) n, AV.own (Nm.cell (Nm.arg (0 : Nat)) (5 : Nat)) (0 : Nat) n, AV.own (Nm.cell (Nm.arg (0 : Nat)) (6 : Nat)) (0 : Nat) n, AV.own (Nm.cell (Nm.arg (0 : Nat)) (7 : Nat)) (1 : Nat) (List.length w.next), AV.d (D.int IntKind.i64 w.err)]), (Nm.cell (Nm.arg (0 : Nat)) (2 : Nat), AObj.arr (4 : Nat) (1 : Nat) (0 : Nat) (bC w.met)), (Nm.cell (Nm.arg (0 : Nat)) (3 : Nat), AObj.arr (3 : Nat) (1 : Nat) (0 : Nat) (iC w.fork)), (Nm.cell (Nm.arg (0 : Nat)) (4 : Nat), AObj.arr (3 : Nat) (1 : Nat) (0 : Nat) (iC w.deep)), (Nm.cell (Nm.arg (0 : Nat)) (5 : Nat), AObj.arr (3 : Nat) (1 : Nat) (0 : Nat) (iC w.join)), (Nm.cell (Nm.arg (0 : Nat)) (6 : Nat), AObj.arr (3 : Nat) (1 : Nat) (0 : Nat) (iC w.up)), (Nm.cell (Nm.arg (0 : Nat)) (7 : Nat), AObj.arr (3 : Nat) (1 : Nat) (1 : Nat) (iC w.next))])) (by kernel_rfl) ?_
      rfl
  | succ m ihm =>
    intro i z v w hi hle hz hv hw hmu
    have hend : z < ((l.map FlowT.cells).length : Int) := by rw [List.length_map]; omega
    have hx : l[i]? = some l[i] := List.getElem?_eq_getElem (by omega)
    have hd : l.drop i = l[i] :: l.drop (i + 1) := List.drop_eq_getElem_cons (by omega)
    rw [hd, outsS]
    generalize l[i] = o at hx hd ⊢
    have hto := ho o (List.mem_of_getElem? hx)
    have ht : o.to = (o.to.toNat : Int) := by omega
    have hf := flow_get hx
    rw [ht] at hf
    generalize o.to.toNat = t at *
    have hmu' : w.next.length ≤ 100000 := by have := hmu; unfold Wk.mu at this; omega
    obtain ⟨v1, g1, hc⟩ := enter_all id pl n w hw t (by omega) hmu' f dp j (by omega)
    have hw' := enter_len hw t f dp
    have hmu1 : (enterS w t f dp).mu ≤ n := by rw [enter_mu hw (by omega)]; exact hmu
    generalize enterS w t f dp = w1 at *
    rcases hv with rfl | rfl <;> rcases g1 with rfl | rfl
    · obtain ⟨v', b1, hih⟩ := ihm (i + 1) (IntKind.i64.wrap (z + 1)) 0 w1 (by omega) (by omega) (wrap_up hz (by omega)) (by omega) hw' hmu1
      refine ⟨v', b1, fun lf st hlf hp => ?_⟩
      obtain ⟨lf, rfl⟩ : ∃ n, lf = n + 1 := ⟨lf - 1, by omega⟩
      refine loop_step hp ?_
      conv => lhs; whnf
      refine iteK_dec_t hend ?_
      conv => lhs; whnf
      refine nextK_of (aop_ix rfl rfl rfl rfl (ixL_at' hz hf rfl)) ?_
      conv => lhs; whnf
      refine nextK_of hc ?_
      conv => lhs; whnf
      refine Eq.trans (hih lf _ (by omega) rfl) ?_
      rfl
    · obtain ⟨v', b1, hih⟩ := ihm (i + 1) (IntKind.i64.wrap (z + 1)) 1 w1 (by omega) (by omega) (wrap_up hz (by omega)) (by omega) hw' hmu1
      refine ⟨v', b1, fun lf st hlf hp => ?_⟩
      obtain ⟨lf, rfl⟩ : ∃ n, lf = n + 1 := ⟨lf - 1, by omega⟩
      refine loop_step hp ?_
      conv => lhs; whnf
      refine iteK_dec_t hend ?_
      conv => lhs; whnf
      refine nextK_of (aop_ix rfl rfl rfl rfl (ixL_at' hz hf rfl)) ?_
      conv => lhs; whnf
      refine nextK_of hc ?_
      conv => lhs; whnf
      refine Eq.trans (hih lf _ (by omega) rfl) ?_
      rfl
    · obtain ⟨v', b1, hih⟩ := ihm (i + 1) (IntKind.i64.wrap (z + 1)) 1 w1 (by omega) (by omega) (wrap_up hz (by omega)) (by omega) hw' hmu1
      refine ⟨v', b1, fun lf st hlf hp => ?_⟩
      obtain ⟨lf, rfl⟩ : ∃ n, lf = n + 1 := ⟨lf - 1, by omega⟩
      refine loop_step hp ?_
      conv => lhs; whnf
      refine iteK_dec_t hend ?_
      conv => lhs; whnf
      refine nextK_of (aop_ix rfl rfl rfl rfl (ixL_at' hz hf rfl)) ?_
      conv => lhs; whnf
      refine nextK_of hc ?_
      conv => lhs; whnf
      refine Eq.trans (hih lf _ (by omega) rfl) ?_
      rfl
    · obtain ⟨v', b1, hih⟩ := ihm (i + 1) (IntKind.i64.wrap (z + 1)) 1 w1 (by omega) (by omega) (wrap_up hz (by omega)) (by omega) hw' hmu1
      refine ⟨v', b1, fun lf st hlf hp => ?_⟩
      obtain ⟨lf, rfl⟩ : ∃ n, lf = n + 1 := ⟨lf - 1, by omega⟩
      refine loop_step hp ?_
      conv => lhs; whnf
      refine iteK_dec_t hend ?_
      conv => lhs; whnf
      refine nextK_of (aop_ix rfl rfl rfl rfl (ixL_at' hz hf rfl)) ?_
      conv => lhs; whnf
      refine nextK_of hc ?_
      conv => lhs; whnf
      refine Eq.trans (hih lf _ (by omega) rfl) ?_
      rfl
end Go.Rx12
