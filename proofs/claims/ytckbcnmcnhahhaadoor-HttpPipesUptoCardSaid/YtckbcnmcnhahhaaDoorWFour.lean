-- printed by the kit's print.sh, then CUT by this session's shake.py: what the claim does not reach is left out
import Derived.Test.YtckbcnmcnhahhaaDoorWTab
/-! ### 56. Four, five, six operations that may come up next, in any order -/
namespace Go.Proofs.YtckbcnmcnhahhaaDoorW.PrintLast
section
variable {P : Program} {ops : Array Oper} {Q : Exit → Act → World → Prop} {md : Region.Mode} {S : World → Prop} {ds : List Nat} {T : Bool × List (List Nat × List Nat)}
end
end Go.Proofs.YtckbcnmcnhahhaaDoorW.PrintLast
