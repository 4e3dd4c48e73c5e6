-- Written by a program of this session (the kit's print, with functions of our own).
import Derived.Test.YtcmjdkfndlejcaaOpens
import Derived.Test.YtcmjdkfndlejcaaPQuorumCountsx3
import Derived.KernelRfl
namespace Go.Proofs.Ytcmjdkfndlejcaa.PQuorumCounts
open Go Go.RowKit Go.Proofs.YtcmjdkfndlejcaaW.PrintWords Go.Proofs.YtcmjdkfndlejcaaW.PrintLast Go.Proofs.YtcmjdkfndlejcaaW.PrintMore Go.Proofs.YtcmjdkfndlejcaaW.Opens
set_option linter.unusedVariables false
variable {H : Type} {enc : TypeId × Value → H} {w : World}
/-- The one pure statement of funicularlaw14_QuorumCounts. -/
def funicularlaw14_QuorumCounts.Pure2 : Prop := ∀ (x0 : Int) (x1 : List Bool) (x2 : List Bool) (x3 : List Int), (Lit.int .i64 x0).wf = true → (x1.length ≤ maxLen ∧ ∀ y_ ∈ x1, True) → (x2.length ≤ maxLen ∧ ∀ y_ ∈ x2, True) → (x3.length ≤ maxLen ∧ ∀ y_ ∈ x3, (Lit.int .i64 y_).wf = true) → ∃ k, funicularlaw14_QuorumCounts.f k x0 x1 x2 x3 = some true
end Go.Proofs.Ytcmjdkfndlejcaa.PQuorumCounts
