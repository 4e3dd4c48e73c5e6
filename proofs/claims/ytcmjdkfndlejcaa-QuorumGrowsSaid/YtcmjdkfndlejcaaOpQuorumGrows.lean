-- Written by a program of this session (the kit's print, with functions of our own).
import Derived.Test.YtcmjdkfndlejcaaOpens
import Derived.Test.YtcmjdkfndlejcaaPQuorumGrowsx2
import Derived.KernelRfl
namespace Go.Proofs.Ytcmjdkfndlejcaa.PQuorumGrows
open Go Go.RowKit Go.Proofs.YtcmjdkfndlejcaaW.PrintWords Go.Proofs.YtcmjdkfndlejcaaW.PrintLast Go.Proofs.YtcmjdkfndlejcaaW.PrintMore Go.Proofs.YtcmjdkfndlejcaaW.Opens
set_option linter.unusedVariables false
variable {H : Type} {enc : TypeId × Value → H} {w : World}
/-- The one pure statement of funicularlaw14_QuorumGrows. -/
def funicularlaw14_QuorumGrows.Pure2 : Prop := ∀ (x0 : List Int) (x1 : List Bool) (x2 : Int) (x3 : Int), (x0.length ≤ maxLen ∧ ∀ y_ ∈ x0, (Lit.int .i64 y_).wf = true) → (x1.length ≤ maxLen ∧ ∀ y_ ∈ x1, True) → (Lit.int .i64 x2).wf = true → (Lit.int .u16 x3).wf = true → ∃ k, funicularlaw14_QuorumGrows.f k x0 x1 x2 x3 = some true
end Go.Proofs.Ytcmjdkfndlejcaa.PQuorumGrows
