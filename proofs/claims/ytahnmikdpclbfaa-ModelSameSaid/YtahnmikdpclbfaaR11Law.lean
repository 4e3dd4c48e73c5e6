import Derived.Test.YtahnmikdpclbfaaR11Wt28
import Derived.Test.YtahnmikdpclbfaaR11F60
import Derived.Test.YtahnmikdpclbfaaR11Df26
open Go Go.Rx Go.Proofs Go.Rx11 Go.RxTree
set_option maxRecDepth 1000000
set_option maxHeartbeats 4000000
set_option linter.unusedVariables false
namespace Go.Rx11
theorem works11 (k d : Nat) (H : Hp) : callA cfg (icall Try.prog cfg (k + 1)) d 11 [] H = some (.ret (.d (.bool true)), H) := callA_plain rfl rfl rfl
theorem law9 (a b : DefT) (ha : a.Ok) (hb : b.Ok) (k : Nat) (hk : a.wt + b.wt + 2 < k) : icall Try.prog cfg k 9 [a.av, b.av] [] = some (.ret (.d (.bool true)), []) := by
  obtain ⟨k, rfl⟩ : ∃ j, k = j + 1 + 1 := ⟨k - 2, by omega⟩
  obtain ⟨l1, h1⟩ := light10 a ha (k + 1) (by omega)
  obtain ⟨l2, h2⟩ := light10 b hb (k + 1) (by omega)
  have c1 : ∀ e H, callA cfg (icall Try.prog cfg (k + 1)) e 10 [a.av] H = some (.ret (.d (.bool l1)), H) := fun e H => callA_plain h1 rfl rfl
  have c2 : ∀ e H, callA cfg (icall Try.prog cfg (k + 1)) e 10 [b.av] H = some (.ret (.d (.bool l2)), H) := fun e H => callA_plain h2 rfl rfl
  have c3 : ∀ e H, callA cfg (icall Try.prog cfg (k + 1)) e 27 [a.av, b.av] H = some (.ret (.d (.bool (sameD a b))), H) := fun e H => callA_plain (same27 a b ha (k + 1) (by omega)) rfl rfl
  have c4 : ∀ e H, callA cfg (icall Try.prog cfg (k + 1)) e 26 [a.av, b.av] H = some (.ret (.d (.bool (sameD a b))), H) := fun e H => callA_plain (same26 a b ha (k + 1) (by omega)) rfl rfl
  have c5 : ∀ e H, callA cfg (icall Try.prog cfg (k + 1)) e 27 [a.av, a.av] H = some (.ret (.d (.bool true)), H) := fun e H => by
    have := same27 a a ha (k + 1) (by omega)
    rw [sameD_refl] at this
    exact callA_plain this rfl rfl
  have c6 := works11 k
  generalize sameD a b = s at c3 c4
  rw [icall_body rfl Try.func9]
  obtain ⟨cA, hcA⟩ : ∃ cA, cA = callA cfg (icall Try.prog cfg (k + 1)) := ⟨_, rfl⟩
  rw [← hcA] at c1 c2 c3 c4 c5 c6 ⊢
  conv => lhs; whnf
  refine nextK_of (c1 _ _) ?_
  cases l1
  · conv => lhs; whnf
    refine nextK_of (c6 _ _) ?_
    kernel_rfl
  · conv => lhs; whnf
    refine nextK_of (c2 _ _) ?_
    cases l2
    · conv => lhs; whnf
      refine nextK_of (c6 _ _) ?_
      kernel_rfl
    · conv => lhs; whnf
      refine iteO_t (by kernel_rfl) ?_
      conv => lhs; whnf
      refine nextK_of (c3 _ _) ?_
      conv => lhs; whnf
      refine nextK_of (c4 _ _) ?_
      cases s <;> (
        conv => lhs; whnf
        refine nextK_of (c5 _ _) ?_
        conv => lhs; whnf
        refine nextK_of (c6 _ _) ?_
        conv => lhs; whnf
        refine iteO_t (by kernel_rfl) ?_
        kernel_rfl)
end Go.Rx11
