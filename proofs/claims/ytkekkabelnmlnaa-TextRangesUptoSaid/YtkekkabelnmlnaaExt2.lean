/- The reference's Escape, walked by hand, as a callee of printed texts. -/
import Derived.Test.YtkekkabelnmlnaaTxE
namespace Go.Proofs.Ytkekkabelnmlnaa
open Go Go.RowKit Go.Proofs.YtkekkabelnmlnaaW.PrintWords

def atriumref15_Escape.f (a0 : ByteArray) : Option ByteArray := if a0.size ≤ 140737488351232 then some ⟨(escAll a0.data.toList).toArray⟩ else none
theorem atriumref15_Escape.calls (a0 : ByteArray) (r : ByteArray) (w : World) (h : atriumref15_Escape.f a0 = some r) :
    Calls Try.prog 15 #[.string a0] w fun e w' => e = .returned (.string r) ∧ Below w.heap.size w w' := by
  unfold atriumref15_Escape.f at h
  split at h
  · rename_i hs
    injection h with h
    subst h
    exact refEscape_any a0 w hs
  · cases h
end Go.Proofs.Ytkekkabelnmlnaa
