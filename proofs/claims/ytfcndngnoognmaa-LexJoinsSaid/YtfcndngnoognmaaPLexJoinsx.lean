-- Written by a program of this session (the kit's print, with functions of our own).
import Derived.Test.YtfcndngnoognmaaPLexJoinsx0
import Derived.Test.YtfcndngnoognmaaPLexJoinsx1
import Derived.Test.YtfcndngnoognmaaPLexJoinsx2
import Derived.Test.YtfcndngnoognmaaPLexJoinsx3
import Derived.Test.YtfcndngnoognmaaPLexJoinsx4
import Derived.Test.YtfcndngnoognmaaPLexJoinsx5
namespace Go.Proofs.Ytfcndngnoognmaa.PLexJoins
open Go.RowKit Go.Proofs.YtfcndngnoognmaaW.PrintWords Go.Proofs.YtfcndngnoognmaaW.PrintLast Go.Proofs.YtfcndngnoognmaaW.PrintMore
attribute [local go_sem] max2_int min2_int max_two min_two max_three min_three max_four min_four   -- for this text's walks alone
set_option linter.unusedVariables false
set_option linter.unusedSimpArgs false

end Go.Proofs.Ytfcndngnoognmaa.PLexJoins
