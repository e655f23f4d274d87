/- Walk: MacProofs, where its texts are of 1048576 bytes at most. -/
import Derived.Test.YtililaifppblhaaPureMacProofs
namespace Go.Proofs.Ytililaifppblhaa
open Go Go.RowKit
theorem proofs_walk (a0 a1 a2 : ByteArray) (w : World) (h0 : a0.size ≤ 1048576) (h1 : a1.size ≤ 1048576) (h2 : a2.size ≤ 1048576) :
    Calls Try.prog 7 #[.string a0, .string a1, .string a2] w fun e w' => e = .returned (.bool true) ∧ Below w.heap.size w w' := by
  obtain ⟨k, hk⟩ := Pure.MacProofs a0 a1 a2 h0 h1 h2
  exact PM.atriumlaw04_MacProofs.calls k a0 a1 a2 true w hk
end Go.Proofs.Ytililaifppblhaa
