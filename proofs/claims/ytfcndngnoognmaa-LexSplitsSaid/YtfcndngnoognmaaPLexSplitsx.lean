-- Written by a program of this session (the kit's print, with functions of our own).
import Derived.Test.YtfcndngnoognmaaPLexSplitsx0
import Derived.Test.YtfcndngnoognmaaPLexSplitsx1
import Derived.Test.YtfcndngnoognmaaPLexSplitsx2
import Derived.Test.YtfcndngnoognmaaPLexSplitsx3
import Derived.Test.YtfcndngnoognmaaPLexSplitsx4
import Derived.Test.YtfcndngnoognmaaPLexSplitsx5
import Derived.Test.YtfcndngnoognmaaPLexSplitsx6
import Derived.Test.YtfcndngnoognmaaPLexSplitsx7
namespace Go.Proofs.Ytfcndngnoognmaa.PLexSplits
open Go.RowKit Go.Proofs.YtfcndngnoognmaaW.PrintWords Go.Proofs.YtfcndngnoognmaaW.PrintLast Go.Proofs.YtfcndngnoognmaaW.PrintMore
attribute [local go_sem] max2_int min2_int max_two min_two max_three min_three max_four min_four   -- for this text's walks alone
set_option linter.unusedVariables false
set_option linter.unusedSimpArgs false

end Go.Proofs.Ytfcndngnoognmaa.PLexSplits
