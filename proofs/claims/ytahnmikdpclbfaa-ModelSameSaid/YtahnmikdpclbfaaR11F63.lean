import Derived.Test.YtahnmikdpclbfaaRxCfg11
import Derived.Test.YtahnmikdpclbfaaRxDef
import Derived.Test.YtahnmikdpclbfaaR11Eq58
open Go Go.Rx Go.Proofs Go.Rx11 Go.RxTree
set_option maxRecDepth 1000000
set_option maxHeartbeats 4000000
set_option linter.unusedVariables false
namespace Go.Rx11
abbrev trH (o : Nm) : Hp := [(o, .cells [.fn 57 []])]
theorem same63 (a b : FlowT) (ha : a.Ok) (k : Nat) (hk : a.wt < k) : icall Try.prog cfg k 63 [a.av, b.av, .ptr (.arg 2) 0] (trH (.arg 2)) = some (.ret (.d (.bool (sameF a b))), trH (.arg 2)) := by
  obtain ⟨k, rfl⟩ : ∃ j, k = j + 1 := ⟨k - 1, by omega⟩
  obtain ⟨g1, g2, g3⟩ := ha
  unfold FlowT.wt at hk
  rw [icall_body rfl Try.func63]
  obtain ⟨cA, hcA⟩ : ∃ cA, cA = callA cfg (icall Try.prog cfg k) := ⟨_, rfl⟩
  have hc : ∀ d H, cA d 57 [.d (.list (cellsL a.iff)), .d (.list (cellsL b.iff))] H = some (.ret (.d (.bool (sameL a.iff b.iff))), H) := fun d H => by
    rw [hcA]; exact callA_plain (trees57 a.iff b.iff g2 g3 k (by omega)) rfl rfl
  rw [← hcA, sameF]
  conv => lhs; whnf
  refine iteK_of (fun h1 => ?_) (fun h1 => ?_) <;> rw [h1]
  · conv => lhs; whnf
    refine nextK_of (hc _ _) ?_
    refine Eq.trans (b := some (.ret (.d (.bool (sameL a.iff b.iff))), trH (.arg 2))) (by kernel_rfl) ?_
    simp
  · refine Eq.trans (b := some (.ret (.d (.bool false)), trH (.arg 2))) (by kernel_rfl) ?_
    simp
end Go.Rx11
