/- The wrap for a row of the first form whose package variables are laid and whose walk asks what the library's own variables hold. -/
import Derived.Handed
import Derived.SizedLaws
import Derived.Test.YtckbcnmcnhahhaaDoorProg
namespace Go.Proofs.YtckbcnmcnhahhaaDoor.RowS
open Go
section
variable {H : Type} {enc : TypeId × Value → H}
end
end Go.Proofs.YtckbcnmcnhahhaaDoor.RowS
