-- Written by a program of this session (the kit's print, with functions of our own).
import Derived.Test.YtcmjdkfndlejcaaPQuorumGrowsx0
import Derived.Test.YtcmjdkfndlejcaaPQuorumGrowsx1
import Derived.Test.YtcmjdkfndlejcaaPQuorumGrowsx2
namespace Go.Proofs.Ytcmjdkfndlejcaa.PQuorumGrows
open Go.RowKit Go.Proofs.YtcmjdkfndlejcaaW.PrintWords Go.Proofs.YtcmjdkfndlejcaaW.PrintLast Go.Proofs.YtcmjdkfndlejcaaW.PrintMore
attribute [local go_sem] max2_int min2_int max_two min_two max_three min_three max_four min_four   -- for this text's walks alone
set_option linter.unusedVariables false
set_option linter.unusedSimpArgs false

end Go.Proofs.Ytcmjdkfndlejcaa.PQuorumGrows
