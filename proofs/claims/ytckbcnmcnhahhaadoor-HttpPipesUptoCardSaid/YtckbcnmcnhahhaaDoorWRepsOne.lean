-- printed by the kit's print.sh, then CUT by this session's shake.py: what the claim does not reach is left out
import Derived.Test.YtckbcnmcnhahhaaDoorWWords
/-! ### 55. Reps told from the front, no append: for rows of one-cell elements and of wider ones -/
namespace Go.Proofs.YtckbcnmcnhahhaaDoorW.PrintWords
end Go.Proofs.YtckbcnmcnhahhaaDoorW.PrintWords
