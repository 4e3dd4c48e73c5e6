/- A part of the proof of the law: what functions of the program come to, walked by Rx, or plain facts on it. -/
import Derived.Test.YtaghcidejnhahaaRRow3
open Go Go.Rx Go.Proofs Go.Rx12 Go.RxTree
set_option maxRecDepth 1000000
set_option maxHeartbeats 4000000
set_option linter.unusedVariables false
set_option linter.unusedSimpArgs false
namespace Go.Rx12
theorem rows23 (id : List UInt8) (ps : List PlaceT) (n : Nat) (hps : ps.length = n) (hn : n ≤ 4096) (hn0 : 0 < n) (hO : ∀ p ∈ ps, outsOk p.out n ∧ p.out.length ≤ 16) (k : Nat) (hk : 100210 ≤ k) :
    icall Try.prog cfg k 23 [.agg [.d (.str id), .d (.list (ps.map PlaceT.cells))]] [] = some (.ret (.tuple [.d (.list (rC (rowsR ps).1.rows)), .d (.list (iC (rowsR ps).1.joins)), .d (.int .i64 (rowsR ps).2)]), []) := by
  obtain ⟨k, rfl⟩ : ∃ j, k = j + 1 := ⟨k - 1, by omega⟩
  have hL := fun lf st => rowsL id ps n hps hn hO k (by omega) rfl n 0 0 (rowsW n) 1 ((List.replicate n [D.bool false, D.list []]).set 0 [.bool true, .list []]) (List.replicate n [D.int .i64 0]) [[.int .i64 0]] lf st (by omega) (by omega) rfl (rowsW_ok hn0) rfl (by rw [rC_rep]; exact rC_set _ 0 true []) (iC_rep0 n) rfl
  have hlen := (rowsS_ok (ps := ps) hps (fun p hp => (hO p hp).1) (m := n) (i := 0) (rowsW_ok hn0)).len
  rw [show rowsR ps = rowsS ps n 0 (rowsW n) by unfold rowsR; rw [hps]]
  generalize rowsS ps n 0 (rowsW n) = q at *
  obtain ⟨⟨rs, js, od⟩, e⟩ := q
  dsimp only at *
  have t1 := rC_fullN hlen.1
  have t2 := iC_fullN hlen.2
  dsimp only at t1 t2
  have hpl : (ps.map PlaceT.cells).length = n := by rw [List.length_map, hps]
  have hr0 : (List.replicate n [D.bool false, D.list []])[0]? = some [D.bool false, D.list []] := by simp [hn0]
  generalize hpc : ps.map PlaceT.cells = pl at *
  rw [icall_body rfl Try.func23]
  obtain ⟨lp, hlp⟩ : ∃ lp, lp = lpOf Try.prog cfg (icall Try.prog cfg k) Try.f23.ntmps 23 k (([] : Hp).map (·.1)) := ⟨_, rfl⟩
  rw [← hlp]
  rw [← (show lp = lpOf Try.prog cfg (icall Try.prog cfg k) Try.f23.ntmps 23 k (([] : Hp).map (·.1)) from hlp)] at hL
  by_cases he : e = 0
  · subst he
    rw [show (((0 : Int) == 0) = true) from rfl] at hL
    conv => lhs; whnf
    refine nextK_of (aop_mkO (n := n) (by rw [← hpl]; rfl) (by rw [← hpl]; rfl) rfl rfl rfl rfl (lenM33 (by omega)) rfl (by decide) rfl) ?_
    conv => lhs; whnf
    refine nextK_of (aop_mkO (n := n) (by rw [← hpl]; rfl) (by rw [← hpl]; rfl) rfl rfl rfl rfl (lenM8 (by omega)) rfl (by decide) rfl) ?_
    conv => lhs; whnf
    refine nextK_of (aop_ixO (i := 0) rfl rfl rfl rfl rfl rfl (by omega)) ?_
    conv => lhs; whnf
    refine nextK_of (aop_stE rfl rfl rfl rfl rfl hr0 rfl) ?_
    conv => lhs; whnf
    refine nextK_ite (loop_at hlp (hL k _ (by omega) rfl)) ?_
    conv => lhs; whnf
    refine Eq.trans (b := some (Res.ret (AV.tuple [AV.d (D.list (List.take n (rC (Rw.mk rs js od).rows))), AV.d (D.list (List.take n (iC (Rw.mk rs js od).joins))), AV.d (D.int IntKind.i64 (0 : Int))]), [])) (by kernel_rfl) ?_
    rw [t1, t2]
  · rw [show (e == 0) = false by simpa using he] at hL
    conv => lhs; whnf
    refine nextK_of (aop_mkO (n := n) (by rw [← hpl]; rfl) (by rw [← hpl]; rfl) rfl rfl rfl rfl (lenM33 (by omega)) rfl (by decide) rfl) ?_
    conv => lhs; whnf
    refine nextK_of (aop_mkO (n := n) (by rw [← hpl]; rfl) (by rw [← hpl]; rfl) rfl rfl rfl rfl (lenM8 (by omega)) rfl (by decide) rfl) ?_
    conv => lhs; whnf
    refine nextK_of (aop_ixO (i := 0) rfl rfl rfl rfl rfl rfl (by omega)) ?_
    conv => lhs; whnf
    refine nextK_of (aop_stE rfl rfl rfl rfl rfl hr0 rfl) ?_
    conv => lhs; whnf
    refine nextK_ite (loop_at hlp (hL k _ (by omega) rfl)) ?_
    conv => lhs; whnf
    refine Eq.trans (b := some (Res.ret (AV.tuple [AV.d (D.list (List.take n (rC (Rw.mk rs js od).rows))), AV.d (D.list (List.take n (iC (Rw.mk rs js od).joins))), AV.d (D.int IntKind.i64 e)]), [])) (by kernel_rfl) ?_
    rw [t1, t2]
end Go.Rx12
