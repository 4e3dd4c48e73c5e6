/- A part of the proof of the law: what functions of the program come to, walked by Rx, or plain facts on it. -/
import Derived.Test.YtbeppoonnbfdeaaRxCfg07
import Derived.Test.YtbeppoonnbfdeaaRCheckP
open Go Go.Rx Go.Proofs Go.Rx07.P Go.RxTree
set_option maxRecDepth 1000000
set_option maxHeartbeats 4000000
set_option linter.unusedVariables false
set_option linter.unusedSimpArgs false
namespace Go.Rx07.P
theorem check16 (t : T) (hs : t.Sm) (ho : t.Ok) (k : Nat) (hk : t.wt + 1 < k) : icall Try.prog cfg k 16 [t.av] [] = some (.ret (.d (.int .i64 (checkT t 1))), []) := by
  obtain ⟨k, rfl⟩ : ∃ j, k = j + 1 := ⟨k - 1, by omega⟩
  show icall Try.prog cfg _ _ [.agg [.d (.int .i64 t.kind), .d (.int .i64 t.n), .d (.str t.name), .d (.list (cellsL t.kids))]] [] = _
  rw [icall_body rfl Try.func16]
  obtain ⟨lp, hlp⟩ : ∃ lp, lp = lpOf Try.prog cfg (icall Try.prog cfg k) Try.f16.ntmps 16 k (([] : Hp).map (·.1)) := ⟨_, rfl⟩
  rw [← hlp]
  conv => lhs; whnf
  refine nextK_of (check74 t.wt t 1 (Nat.le_refl _) hs ho (by omega) (by omega) k (by omega)) ?_
  conv => lhs; whnf
  refine Eq.trans (b := some (Res.ret (AV.d (D.int IntKind.i64 (checkT t (1 : Int)))), [])) (by kernel_rfl) ?_
  rfl
end Go.Rx07.P
