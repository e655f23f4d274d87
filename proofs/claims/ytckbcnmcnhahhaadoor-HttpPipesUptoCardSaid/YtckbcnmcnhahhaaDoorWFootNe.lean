-- printed by the kit's print.sh, then CUT by this session's shake.py: what the claim does not reach is left out
import Derived.Test.YtckbcnmcnhahhaaDoorWN
/-! ### 52. A row that stays read whatever happens to a block (a set of blocks) doesn't lie there -/
namespace Go.Proofs.YtckbcnmcnhahhaaDoorW.PrintWords
open Go.RowKit
namespace Kd
section
variable {α : Type} {d : Kd α} {W : World} {g n : Nat} {S ok : Nat → Prop} {A : Option Addr} {ad : Addr} {xs : List α}
end
end Kd
end Go.Proofs.YtckbcnmcnhahhaaDoorW.PrintWords
