/-
  DERIVED. GIVEN WITH THE SEED: THE CARDS: each row of YtjlohahknngmmaaDoorRows.lean that lists a variable, with what it lists TIED to the program's text (the seventh form; the later family's looks); each row that meets fmt, with fmt's text TOLD by the authors' own Lean function (tested against real Go, not proved from fmt's source: count such statements apart). THE CARD IS WHAT COUNTS. Prove the row's statement (the work); the ties are given (YtjlohahknngmmaaDoorTie.lean); close each card by the builder's one call (the guide's Derived/Test/ToyasCard.lean, 'card_holds'). Laid BY PROGRAM, IN A SANDBOX (cutbox-door.mjs). By AI agents, Wed Nov 11 2026. No macro, syntax, notation, axiom, sorry.
-/
import Derived.Test.YtjlohahknngmmaaDoorRows
import GoSem.ClaimSeven
namespace Go.Proofs.YtjlohahknngmmaaDoor
namespace Rows

/-- THE TIED CARD OF 'atriumlaw02.CodecOrder'. -/
def codecOrderCard : Claim7 := { stood := { row := codecOrderRow, standIns := [], harness := (true, "3a13550bf8bce0bf8845582114983f33ab733c79af1c7a168fc84309ed6ded9d"), looks := false }, kinds := [], alts := [], laidByText := true, laidKinds := [.data, .pinned], laidTests := true, laidLooks := .later }
def CodecOrderCardSaid : Prop := Claim7.holds Tryd.pinned (.plain (OpenSpec.ofChange codecOrderSpec)) codecOrderCard

/-- THE TIED CARD OF 'atriumlaw02.CodecRanges'. -/
def codecRangesCard : Claim7 := { stood := { row := codecRangesRow, standIns := [], harness := (true, "3a13550bf8bce0bf8845582114983f33ab733c79af1c7a168fc84309ed6ded9d"), looks := false }, kinds := [], alts := [], laidByText := true, laidKinds := [.data, .pinned], laidTests := true, laidLooks := .later }
def CodecRangesCardSaid : Prop := Claim7.holds Tryd.pinned (.plain (OpenSpec.ofChange codecRangesSpec)) codecRangesCard

/-- THE TIED CARD OF 'atriumlaw02.CodecKeys'. -/
def codecKeysCard : Claim7 := { stood := { row := codecKeysRow, standIns := [], harness := (true, "3a13550bf8bce0bf8845582114983f33ab733c79af1c7a168fc84309ed6ded9d"), looks := false }, kinds := [], alts := [], laidByText := true, laidKinds := [.data, .pinned], laidTests := true, laidLooks := .later }
def CodecKeysCardSaid : Prop := Claim7.holds Tryd.pinned (.plain (OpenSpec.ofChange codecKeysSpec)) codecKeysCard

/-- THE SECOND FORM's CARD OF 'atriumlaw02.CodecOrder'. -/
def codecOrderUptoCard : Claim7 := { stood := { row := codecOrderUptoRow, standIns := [], harness := (true, "3a13550bf8bce0bf8845582114983f33ab733c79af1c7a168fc84309ed6ded9d"), looks := false }, kinds := [], alts := [], laidByText := true, laidKinds := [.data, .pinned], laidTests := true, laidLooks := .later }
def CodecOrderUptoCardSaid : Prop := Claim7.holds Tryd.pinned (.plain (OpenSpec.upto codecOrderSpec)) codecOrderUptoCard

/-- THE SECOND FORM's CARD OF 'atriumlaw02.CodecRanges'. -/
def codecRangesUptoCard : Claim7 := { stood := { row := codecRangesUptoRow, standIns := [], harness := (true, "3a13550bf8bce0bf8845582114983f33ab733c79af1c7a168fc84309ed6ded9d"), looks := false }, kinds := [], alts := [], laidByText := true, laidKinds := [.data, .pinned], laidTests := true, laidLooks := .later }
def CodecRangesUptoCardSaid : Prop := Claim7.holds Tryd.pinned (.plain (OpenSpec.upto codecRangesSpec)) codecRangesUptoCard

/-- THE SECOND FORM's CARD OF 'atriumlaw02.CodecKeys'. -/
def codecKeysUptoCard : Claim7 := { stood := { row := codecKeysUptoRow, standIns := [], harness := (true, "3a13550bf8bce0bf8845582114983f33ab733c79af1c7a168fc84309ed6ded9d"), looks := false }, kinds := [], alts := [], laidByText := true, laidKinds := [.data, .pinned], laidTests := true, laidLooks := .later }
def CodecKeysUptoCardSaid : Prop := Claim7.holds Tryd.pinned (.plain (OpenSpec.upto codecKeysSpec)) codecKeysUptoCard
end Rows
end Go.Proofs.YtjlohahknngmmaaDoor
