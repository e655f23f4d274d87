/- The shelf's contract on maps.Clone at this dump, in plain words. -/
import Derived.Test.YtamhecmopnekjaaCloL
namespace Go.Proofs
open Go.RowKit Go.Maps Go.Shelf

theorem Try.maps_Clone_owns {H : Type} (k : TypeId) (R : Value → Option (DataW H × List MemPlace)) (b n : Nat) (D : DataW H) (w : World) (hown : w.ownsMap Try.prog k R b n D) :
    Calls Try.prog 42 #[.map (some b)] w fun e w' => e = .returned (.map (some w.heap.size)) ∧ w'.ownsMap Try.prog k R w.heap.size n D ∧ w'.ownsMap Try.prog k R b n D ∧ Below w.heap.size w w' :=
  AnyW.maps_Clone_owns Try.cloneF k R b n D w hown
end Go.Proofs
