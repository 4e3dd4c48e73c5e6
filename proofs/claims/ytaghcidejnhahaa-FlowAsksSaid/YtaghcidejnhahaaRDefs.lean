/- A part of the proof of the law: what functions of the program come to, walked by Rx, or plain facts on it. -/
import Derived.Test.YtaghcidejnhahaaRxCfg12
import Derived.Test.YtaghcidejnhahaaRTyped
open Go Go.Rx Go.Proofs Go.Rx12 Go.RxTree
set_option maxRecDepth 1000000
set_option maxHeartbeats 4000000
set_option linter.unusedVariables false
set_option linter.unusedSimpArgs false
namespace Go.Rx12
theorem typed66 (t : T) (b : Bool) (hs : t.Sm) (ho : t.Ok) (k : Nat) (hk : t.wt + 3 < k) : icall Try.prog cfg k 53 [t.av, .d (.bool b)] [] = some (.ret (.d (.int .i64 (typedS t b))), []) := by
  obtain ⟨k, rfl⟩ : ∃ j, k = j + 1 := ⟨k - 1, by omega⟩
  show icall Try.prog cfg _ _ [.agg [.d (.int .i64 t.kind), .d (.int .i64 t.n), .d (.str t.name), .d (.list (cellsL t.kids))], _] [] = _
  rw [icall_body rfl Try.func53]
  obtain ⟨lp, hlp⟩ : ∃ lp, lp = lpOf Try.prog cfg (icall Try.prog cfg k) Try.f53.ntmps 53 k (([] : Hp).map (·.1)) := ⟨_, rfl⟩
  rw [← hlp]
  conv => lhs; whnf
  refine nextK_of (truth85 t hs ho k (by omega)) ?_
  conv => lhs; whnf
  refine iteK_beq (fun h1 => ?_) (fun h1 => ?_)
  · rw [beq_t h1]
    conv => lhs; whnf
    refine iteK_not ?_
    conv => lhs; whnf
    refine iteK_beq (fun h2 => ?_) (fun h2 => ?_)
    · rw [beq_t h2]
      conv => lhs; whnf
      refine Eq.trans (b := some (Res.ret (AV.d (D.int IntKind.i64 (truthP t).2)), [])) (by kernel_rfl) ?_
      (simp [typedS, *]; done)
    · rw [beq_f h2]
      conv => lhs; whnf
      refine Eq.trans (b := some (Res.ret (AV.d (D.int IntKind.i64 (7 : Int))), [])) (by kernel_rfl) ?_
      exact ret_i (by rw [typedS, if_neg (by simp [*]), if_pos (by simp [*])])
  · rw [beq_f h1]
    conv => lhs; whnf
    refine Eq.trans (b := some (Res.ret (AV.d (D.int IntKind.i64 (truthP t).2)), [])) (by kernel_rfl) ?_
    exact ret_i (by rw [typedS, if_pos (by assumption)])
theorem typed71 (t : T) (b : Bool) (hs : t.Sm) (ho : t.Ok) (k : Nat) (hk : t.wt + 3 < k) : icall Try.prog cfg k 49 [t.av, .d (.bool b)] [] = some (.ret (.d (.int .i64 (typedS t b))), []) := by
  obtain ⟨k, rfl⟩ : ∃ j, k = j + 1 := ⟨k - 1, by omega⟩
  show icall Try.prog cfg _ _ [.agg [.d (.int .i64 t.kind), .d (.int .i64 t.n), .d (.str t.name), .d (.list (cellsL t.kids))], _] [] = _
  rw [icall_body rfl Try.func49]
  obtain ⟨lp, hlp⟩ : ∃ lp, lp = lpOf Try.prog cfg (icall Try.prog cfg k) Try.f49.ntmps 49 k (([] : Hp).map (·.1)) := ⟨_, rfl⟩
  rw [← hlp]
  conv => lhs; whnf
  refine nextK_of (truth86 t hs ho k (by omega)) ?_
  conv => lhs; whnf
  refine iteK_bne (fun h1 => ?_) (fun h1 => ?_)
  · rw [bne_t h1]
    conv => lhs; whnf
    refine Eq.trans (b := some (Res.ret (AV.d (D.int IntKind.i64 (truthP t).2)), [])) (by kernel_rfl) ?_
    exact ret_i (by rw [typedS, if_pos (by assumption)])
  · rw [bne_f h1]
    conv => lhs; whnf
    refine iteK_not ?_
    conv => lhs; whnf
    refine iteK_beq (fun h2 => ?_) (fun h2 => ?_)
    · rw [beq_t h2]
      conv => lhs; whnf
      refine Eq.trans (b := some (Res.ret (AV.d (D.int IntKind.i64 (0 : Int))), [])) (by kernel_rfl) ?_
      exact ret_i (by rw [typedS, if_neg (by simp [*]), if_neg (by simp [*])])
    · rw [beq_f h2]
      conv => lhs; whnf
      refine Eq.trans (b := some (Res.ret (AV.d (D.int IntKind.i64 (7 : Int))), [])) (by kernel_rfl) ?_
      exact ret_i (by rw [typedS, if_neg (by simp [*]), if_pos (by simp [*])])
end Go.Rx12
