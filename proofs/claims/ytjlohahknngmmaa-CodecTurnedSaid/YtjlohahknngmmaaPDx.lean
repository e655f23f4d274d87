-- Written by xprint.py, a program of this session, over the kit's print (functions walked by hand are taken as given); Lean checks it.
import Derived.Test.YtjlohahknngmmaaPDx0
import Derived.Test.YtjlohahknngmmaaPDx1
import Derived.Test.YtjlohahknngmmaaPDx2
import Derived.Test.YtjlohahknngmmaaPDx3
import Derived.Test.YtjlohahknngmmaaPDx4
namespace Go.Proofs.Ytjlohahknngmmaa.PD
open Go.RowKit Go.Proofs.YtjlohahknngmmaaW.PrintWords Go.Proofs.YtjlohahknngmmaaW.PrintLast Go.Proofs.YtjlohahknngmmaaW.PrintMore
attribute [local go_sem] max2_int min2_int max_two min_two max_three min_three max_four min_four   -- for this text's walks alone
set_option linter.unusedVariables false
set_option linter.unusedSimpArgs false

end Go.Proofs.Ytjlohahknngmmaa.PD
