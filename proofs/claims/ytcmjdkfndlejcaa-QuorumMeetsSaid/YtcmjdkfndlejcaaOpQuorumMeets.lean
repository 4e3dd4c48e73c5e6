-- Written by a program of this session (the kit's print, with functions of our own).
import Derived.Test.YtcmjdkfndlejcaaOpens
import Derived.Test.YtcmjdkfndlejcaaPQuorumMeetsx2
import Derived.KernelRfl
namespace Go.Proofs.Ytcmjdkfndlejcaa.PQuorumMeets
open Go Go.RowKit Go.Proofs.YtcmjdkfndlejcaaW.PrintWords Go.Proofs.YtcmjdkfndlejcaaW.PrintLast Go.Proofs.YtcmjdkfndlejcaaW.PrintMore Go.Proofs.YtcmjdkfndlejcaaW.Opens
set_option linter.unusedVariables false
variable {H : Type} {enc : TypeId × Value → H} {w : World}
/-- The one pure statement of funicularlaw14_QuorumMeets. -/
def funicularlaw14_QuorumMeets.Pure2 : Prop := ∀ (x0 : List Bool) (x1 : List Bool), (x0.length ≤ maxLen ∧ ∀ y_ ∈ x0, True) → (x1.length ≤ maxLen ∧ ∀ y_ ∈ x1, True) → ∃ k, funicularlaw14_QuorumMeets.f k x0 x1 = some true
end Go.Proofs.Ytcmjdkfndlejcaa.PQuorumMeets
