/- A part of the proof of the law: what functions of the program come to, walked by Rx, or plain facts on it. -/
import Derived.Test.YtghiaobecppbeaaRFold6
import Derived.Test.YtghiaobecppbeaaRSpecFp
open Go Go.Rx Go.Proofs Go.Rx08 Go.RxTree
set_option maxRecDepth 1000000
set_option maxHeartbeats 4000000
set_option linter.unusedVariables false
set_option linter.unusedSimpArgs false
namespace Go.Rx08
theorem fold19 (t : T) (hs : t.Sm) (ho : t.Ok) (k : Nat) (hk : t.wt + 10 < k) : icall Try.prog cfg k 19 [t.av] [] = some (.ret (.tuple [(foldP t).1.av, .d (.int .i64 (foldP t).2)]), []) := by
  obtain ⟨k, rfl⟩ : ∃ j, k = j + 1 := ⟨k - 1, by omega⟩
  show icall Try.prog cfg _ _ [exA t] [] = _
  have c1 := truth85 t hs ho k (by omega)
  unfold foldP
  by_cases h0 : (truthP t).2 = 0
  · obtain ⟨g1, g2⟩ := truthP_0 h0
    have c2 := fold35 t.wt t 1 (Nat.le_refl _) ho g1 g2 k (by omega)
    rw [h0] at c1
    rw [if_neg (by omega)]
    rw [icall_body rfl Try.func19]
    obtain ⟨lp, hlp⟩ : ∃ lp, lp = lpOf Try.prog cfg (icall Try.prog cfg k) Try.f19.ntmps 19 k (([] : Hp).map (·.1)) := ⟨_, rfl⟩
    rw [← hlp]
    conv => lhs; whnf
    refine nextK_of c1 ?_
    conv => lhs; whnf
    refine nextK_of c2 ?_
    conv => lhs; whnf
    refine Eq.trans (b := some (Res.ret (AV.tuple [AV.agg [AV.d (D.int IntKind.i64 (T.kind (foldT t))), AV.d (D.int IntKind.i64 (T.n (foldT t))), AV.d (D.str (T.name (foldT t))), AV.d (D.list (cellsL (T.kids (foldT t))))], AV.d (D.int IntKind.i64 (0 : Int))]), [])) (by kernel_rfl) ?_
    rfl
  · rw [if_pos h0]
    generalize (truthP t).2 = e at c1 h0
    rw [icall_body rfl Try.func19]
    obtain ⟨lp, hlp⟩ : ∃ lp, lp = lpOf Try.prog cfg (icall Try.prog cfg k) Try.f19.ntmps 19 k (([] : Hp).map (·.1)) := ⟨_, rfl⟩
    rw [← hlp]
    conv => lhs; whnf
    refine nextK_of c1 ?_
    conv => lhs; whnf
    refine iteK_bne_t h0 ?_
    conv => lhs; whnf
    refine Eq.trans (b := some (Res.ret (AV.tuple [AV.agg [AV.d (D.int IntKind.i64 (0 : Int)), AV.d (D.int IntKind.i64 (0 : Int)), AV.d (D.str []), AV.d (D.list [])], AV.d (D.int IntKind.i64 e)]), [])) (by kernel_rfl) ?_
    rfl
theorem fold20 (t : T) (hs : t.Sm) (ho : t.Ok) (k : Nat) (hk : t.wt + 10 < k) : icall Try.prog cfg k 20 [t.av] [] = some (.ret (.tuple [(foldP t).1.av, .d (.int .i64 (foldP t).2)]), []) := by
  obtain ⟨k, rfl⟩ : ∃ j, k = j + 1 := ⟨k - 1, by omega⟩
  show icall Try.prog cfg _ _ [exA t] [] = _
  have c1 := truth86 t hs ho k (by omega)
  unfold foldP
  by_cases h0 : (truthP t).2 = 0
  · obtain ⟨g1, g2⟩ := truthP_0 h0
    have c2 := fold36 t.wt t 1 (Nat.le_refl _) ho g1 k (by omega)
    rw [h0] at c1
    rw [if_neg (by omega)]
    rw [icall_body rfl Try.func20]
    obtain ⟨lp, hlp⟩ : ∃ lp, lp = lpOf Try.prog cfg (icall Try.prog cfg k) Try.f20.ntmps 20 k (([] : Hp).map (·.1)) := ⟨_, rfl⟩
    rw [← hlp]
    conv => lhs; whnf
    refine nextK_of c1 ?_
    conv => lhs; whnf
    refine nextK_of c2 ?_
    conv => lhs; whnf
    refine Eq.trans (b := some (Res.ret (AV.tuple [AV.agg [AV.d (D.int IntKind.i64 (T.kind (foldT t))), AV.d (D.int IntKind.i64 (T.n (foldT t))), AV.d (D.str (T.name (foldT t))), AV.d (D.list (cellsL (T.kids (foldT t))))], AV.d (D.int IntKind.i64 (0 : Int))]), [])) (by kernel_rfl) ?_
    rfl
  · rw [if_pos h0]
    generalize (truthP t).2 = e at c1 h0
    rw [icall_body rfl Try.func20]
    obtain ⟨lp, hlp⟩ : ∃ lp, lp = lpOf Try.prog cfg (icall Try.prog cfg k) Try.f20.ntmps 20 k (([] : Hp).map (·.1)) := ⟨_, rfl⟩
    rw [← hlp]
    conv => lhs; whnf
    refine nextK_of c1 ?_
    conv => lhs; whnf
    refine iteK_bne_t h0 ?_
    conv => lhs; whnf
    refine Eq.trans (b := some (Res.ret (AV.tuple [AV.agg [AV.d (D.int IntKind.i64 (0 : Int)), AV.d (D.int IntKind.i64 (0 : Int)), AV.d (D.str []), AV.d (D.list [])], AV.d (D.int IntKind.i64 e)]), [])) (by kernel_rfl) ?_
    rfl
theorem foldP_ok (t : T) (ho : t.Ok) : (foldP t).1.Ok := by
  unfold foldP
  by_cases h0 : (truthP t).2 = 0
  · rw [if_neg (by omega)]; exact fold_ok t.wt t 1 (Nat.le_refl _) ho (truthP_0 h0).1
  · rw [if_pos h0]; exact ⟨by decide, by decide, by simp [maxLen], by simp [maxLen], trivial⟩
theorem law5 (t : T) (ho : t.Ok) (hs : t.Sm) (k : Nat) (hk : t.wt + (foldP t).1.wt + 12 < k) : icall Try.prog cfg k 5 [t.av] [] = some (.ret (.d (.bool true)), []) := by
  obtain ⟨k, rfl⟩ : ∃ j, k = j + 1 := ⟨k - 1, by omega⟩
  show icall Try.prog cfg _ _ [exA t] [] = _
  have c1 := fold19 t hs ho k (by omega)
  have c2 := fold20 t hs ho k (by omega)
  have c3 := same15 (foldP t).1.wt (foldP t).1 (foldP t).1 (Nat.le_refl _) (foldP_ok t ho) k (by omega)
  rw [sameT_refl] at c3
  generalize foldP t = v at c1 c2 c3
  have c0 := light9 t ho k (by omega)
  have wk := works10 k (by omega)
  obtain ⟨f, e⟩ := v
  rw [icall_body rfl Try.func5]
  obtain ⟨lp, hlp⟩ : ∃ lp, lp = lpOf Try.prog cfg (icall Try.prog cfg k) Try.f5.ntmps 5 k (([] : Hp).map (·.1)) := ⟨_, rfl⟩
  rw [← hlp]
  conv => lhs; whnf
  refine nextK_b c0 (fun h1 => ?_) (fun h1 => ?_)
  · conv => lhs; whnf
    refine nextK_of c1 ?_
    conv => lhs; whnf
    refine nextK_of c2 ?_
    conv => lhs; whnf
    refine iteK_beq (fun h2 => ?_) (fun h2 => ?_)
    · rw [beq_t h2]
      conv => lhs; whnf
      refine nextK_of c3 ?_
      conv => lhs; whnf
      refine nextK_of wk ?_
      conv => lhs; whnf
      refine Eq.trans (b := some (Res.ret (AV.d (D.bool true)), [])) (by kernel_rfl) ?_
      rfl
    · rw [beq_f h2]
      (exfalso; omega)
  · conv => lhs; whnf
    refine nextK_of wk ?_
    conv => lhs; whnf
    refine Eq.trans (b := some (Res.ret (AV.d (D.bool true)), [])) (by kernel_rfl) ?_
    rfl
end Go.Rx08
