/- A part of the proof of the law: what functions of the program come to, walked by Rx, or plain facts on it. -/
import Derived.Test.YtaghcidejnhahaaRRow4
import Derived.Test.YtaghcidejnhahaaRJ1
open Go Go.Rx Go.Proofs Go.Rx12 Go.RxTree
set_option maxRecDepth 1000000
set_option maxHeartbeats 4000000
set_option linter.unusedVariables false
set_option linter.unusedSimpArgs false
namespace Go.Rx12
theorem forks20 (id : List UInt8) (ps : List PlaceT) (n : Nat) (hps : ps.length = n) (hn : n ≤ 4096) (hn0 : 0 < n) (hO : ∀ p ∈ ps, outsOk p.out n ∧ p.out.length ≤ 16) (a : Nat) (ha : a < n) (k : Nat) (hk : 100220 ≤ k) :
    icall Try.prog cfg k 20 [.agg [.d (.str id), .d (.list (ps.map PlaceT.cells))], .d (.int .i64 (a : Int))] [] = some (.ret (.d (.list (iC (getR (rowsR ps).1.rows a).2))), []) := by
  obtain ⟨k, rfl⟩ : ∃ j, k = j + 1 := ⟨k - 1, by omega⟩
  have hr := rows23 id ps n hps hn hn0 hO k (by omega)
  have hlen := (rowsS_ok (ps := ps) hps (fun p hp => (hO p hp).1) (m := n) (i := 0) (rowsW_ok hn0)).len
  rw [show rowsS ps n 0 (rowsW n) = rowsR ps by unfold rowsR; rw [hps]] at hlen
  have hrt := getR_some (l := (rowsR ps).1.rows) (i := a) (by rw [hlen.1]; exact ha)
  have hl1 := hlen.1
  generalize (rowsR ps).1.joins = js at *
  generalize (rowsR ps).2 = e at *
  generalize (rowsR ps).1.rows = rs at *
  generalize getR rs a = bf at *
  obtain ⟨b, f⟩ := bf
  have hrg := rC_get hrt
  have h1 : ¬ (a : Int) < 0 := by omega
  have h2 : ¬ (a : Int) ≥ ((rC rs).length : Int) := by rw [rC_len]; omega
  generalize hpc : ps.map PlaceT.cells = pl at *
  rw [icall_body rfl Try.func20]
  obtain ⟨lp, hlp⟩ : ∃ lp, lp = lpOf Try.prog cfg (icall Try.prog cfg k) Try.f20.ntmps 20 k (([] : Hp).map (·.1)) := ⟨_, rfl⟩
  rw [← hlp]
  conv => lhs; whnf
  refine nextK_of hr ?_
  conv => lhs; whnf
  refine iteK_dec_f h2 ?_
  conv => lhs; whnf
  refine nextK_of (aop_ix rfl rfl rfl rfl (ixL_at' (n := a) rfl hrg rfl)) ?_
  conv => lhs; whnf
  refine Eq.trans (b := some (Res.ret (AV.d (D.list (iC f))), [])) (by kernel_rfl) ?_
  rfl
end Go.Rx12
