-- Written by xprint.py, a program of this session, over the kit's print (functions walked by hand are taken as given); Lean checks it.
import Derived.Test.YtjlohahknngmmaaPCx0
import Derived.Test.YtjlohahknngmmaaPCx1
import Derived.Test.YtjlohahknngmmaaPCx2
import Derived.Test.YtjlohahknngmmaaPCx3
namespace Go.Proofs.Ytjlohahknngmmaa.PC
open Go.RowKit Go.Proofs.YtjlohahknngmmaaW.PrintWords Go.Proofs.YtjlohahknngmmaaW.PrintLast Go.Proofs.YtjlohahknngmmaaW.PrintMore
attribute [local go_sem] max2_int min2_int max_two min_two max_three min_three max_four min_four   -- for this text's walks alone
set_option linter.unusedVariables false
set_option linter.unusedSimpArgs false

end Go.Proofs.Ytjlohahknngmmaa.PC
