-- Written by xprint.py, a program of this session, over the kit's print (functions walked by hand are taken as given); Lean checks it.
import Derived.Test.YtamhecmopnekjaaPBx0
import Derived.Test.YtamhecmopnekjaaPBx1
import Derived.Test.YtamhecmopnekjaaPBx2
namespace Go.Proofs.Ytamhecmopnekjaa.PB
open Go.RowKit Go.Proofs.YtamhecmopnekjaaW.PrintWords Go.Proofs.YtamhecmopnekjaaW.PrintLast Go.Proofs.YtamhecmopnekjaaW.PrintMore
attribute [local go_sem] max2_int min2_int max_two min_two max_three min_three max_four min_four   -- for this text's walks alone
set_option linter.unusedVariables false
set_option linter.unusedSimpArgs false

end Go.Proofs.Ytamhecmopnekjaa.PB
