-- Written by xprint.py, a program of this session, over the kit's print (functions walked by hand are taken as given); Lean checks it.
import Derived.Test.YtjlohahknngmmaaDoorPCx0
import Derived.Test.YtjlohahknngmmaaDoorPCx1
import Derived.Test.YtjlohahknngmmaaDoorPCx2
namespace Go.Proofs.YtjlohahknngmmaaDoor.PC
open Go.RowKit Go.Proofs.YtjlohahknngmmaaDoorW.PrintWords Go.Proofs.YtjlohahknngmmaaDoorW.PrintLast Go.Proofs.YtjlohahknngmmaaDoorW.PrintMore
attribute [local go_sem] max2_int min2_int max_two min_two max_three min_three max_four min_four   -- for this text's walks alone
set_option linter.unusedVariables false
set_option linter.unusedSimpArgs false

end Go.Proofs.YtjlohahknngmmaaDoor.PC
