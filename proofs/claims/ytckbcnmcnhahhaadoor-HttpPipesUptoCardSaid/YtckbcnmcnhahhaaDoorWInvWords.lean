-- printed by the kit's print.sh, then CUT by this session's shake.py: what the claim does not reach is left out
import Derived.Test.YtckbcnmcnhahhaaDoorWInv
import Derived.Test.YtckbcnmcnhahhaaDoorWFootNe
namespace Go.Proofs.YtckbcnmcnhahhaaDoorW.PrintWords
open Go.RowKit
end Go.Proofs.YtckbcnmcnhahhaaDoorW.PrintWords
namespace Go.Proofs.YtckbcnmcnhahhaaDoorW.PrintLast
section
variable {ops : Array Oper} {a : Act} {o og : Oper} {g : Nat} {t : Tmp} {u : Bool}
end
end Go.Proofs.YtckbcnmcnhahhaaDoorW.PrintLast
