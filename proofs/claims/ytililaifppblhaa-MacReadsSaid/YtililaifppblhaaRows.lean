/-
  No cell of these rows narrows 'for every input' (looked for: loops, veiled, ifaces, maps, wideKeys, modest, calm, conditions, laid).
  DERIVED. THE GIVEN ROWS OF THIS SEAT. 8 by the template 'for every input the law returns true; each argument reads behind the call as it read before'; 0 by the template 'total and deterministic' (their statements: YtililaifppblhaaTotals.lean).
  GIVEN WITH THE SEED: the statements are not yours to turn. If you find one false, say at which input.
  Laid BY PROGRAM, IN A SANDBOX (cutbox-rows.mjs): the forced cells as the released guide's own fill.sh prints them over the translation 1a6d5370c3da2cf5… (all of the seat's roots in one cut). By AI agents, Wed Nov 11 2026. No macro, syntax, notation, axiom, sorry.
-/
import Derived.Test.YtililaifppblhaaChecked
import GoSem.Claim
import GoSem.ClaimJoined
import GoSem.ClaimMapViews
import Derived.JoinedTies
import Derived.KernelRfl
namespace Go.Proofs.Ytililaifppblhaa
/- THE CELL 'sum', in the pinned program and in every row, IS THE sha256 OF THE DUMP (.gsa) THAT YtililaifppblhaaProg.lean LOADS. Nothing in Lean hashes anything: it is a label: what it is worth is what the hold of that sum in a sandbox is worth. -/
noncomputable def Try.pinned : Pinned := { name := "ytililaifppblhaa", sum := "1a6d5370c3da2cf55ee709b313e3bfcbc3c2e63d0fe09f26292aa240398e34c8", checked := Try.checked }
namespace Rows
def none {H : Type} : Left H := { results := [], args := [] }

/-- 'atriumlaw04.MacSums': WHATEVER THE INPUT: true; the input reads as it did. -/
def macSumsSpec : ChangeSpec := { name := "macSums", fn := fun _ => fun
  | [d] => { results := [.lit (.bool true)], args := [d] }
  | _ => none }
def macSumsRow : OpenClaim := { program := "ytililaifppblhaa", sum := "1a6d5370c3da2cf55ee709b313e3bfcbc3c2e63d0fe09f26292aa240398e34c8", func := "atrium/atriumlaw04.MacSums", spec := "macSums", inPlace := ["internal/abi.NoEscape", "internal/bytealg.MakeNoZero"], apart := false }
def MacSumsSaid : Prop := macSumsRow.holds Try.pinned (OpenSpec.ofChange macSumsSpec)

/-- ITS FALSE NEIGHBOUR: 'it returns false'. Refute it at one input. -/
def macSumsWrong : ChangeSpec := { name := "macSums", fn := fun _ => fun
  | [d] => { results := [.lit (.bool false)], args := [d] }
  | _ => none }
def MacSumsWrongFalsely : Prop := macSumsRow.holds Try.pinned (OpenSpec.ofChange macSumsWrong)

/-- 'atriumlaw04.MacPieces': WHATEVER THE INPUT: true; the input reads as it did. -/
def macPiecesSpec : ChangeSpec := { name := "macPieces", fn := fun _ => fun
  | [d] => { results := [.lit (.bool true)], args := [d] }
  | _ => none }
def macPiecesRow : OpenClaim := { program := "ytililaifppblhaa", sum := "1a6d5370c3da2cf55ee709b313e3bfcbc3c2e63d0fe09f26292aa240398e34c8", func := "atrium/atriumlaw04.MacPieces", spec := "macPieces", inPlace := ["internal/abi.NoEscape", "internal/bytealg.MakeNoZero"], apart := false }
def MacPiecesSaid : Prop := macPiecesRow.holds Try.pinned (OpenSpec.ofChange macPiecesSpec)

/-- ITS FALSE NEIGHBOUR: 'it returns false'. Refute it at one input. -/
def macPiecesWrong : ChangeSpec := { name := "macPieces", fn := fun _ => fun
  | [d] => { results := [.lit (.bool false)], args := [d] }
  | _ => none }
def MacPiecesWrongFalsely : Prop := macPiecesRow.holds Try.pinned (OpenSpec.ofChange macPiecesWrong)

/-- 'atriumlaw04.MacNobody': WHATEVER THE INPUT: true; the input reads as it did. -/
def macNobodySpec : ChangeSpec := { name := "macNobody", fn := fun _ => fun
  | [d] => { results := [.lit (.bool true)], args := [d] }
  | _ => none }
def macNobodyRow : OpenClaim := { program := "ytililaifppblhaa", sum := "1a6d5370c3da2cf55ee709b313e3bfcbc3c2e63d0fe09f26292aa240398e34c8", func := "atrium/atriumlaw04.MacNobody", spec := "macNobody", inPlace := ["internal/abi.NoEscape", "internal/bytealg.MakeNoZero"], apart := false }
def MacNobodySaid : Prop := macNobodyRow.holds Try.pinned (OpenSpec.ofChange macNobodySpec)

/-- ITS FALSE NEIGHBOUR: 'it returns false'. Refute it at one input. -/
def macNobodyWrong : ChangeSpec := { name := "macNobody", fn := fun _ => fun
  | [d] => { results := [.lit (.bool false)], args := [d] }
  | _ => none }
def MacNobodyWrongFalsely : Prop := macNobodyRow.holds Try.pinned (OpenSpec.ofChange macNobodyWrong)

/-- 'atriumlaw04.MacKeys': WHATEVER THE INPUT: true; the input reads as it did. -/
def macKeysSpec : ChangeSpec := { name := "macKeys", fn := fun _ => fun
  | [d1, d2, d3] => { results := [.lit (.bool true)], args := [d1, d2, d3] }
  | _ => none }
def macKeysRow : OpenClaim := { program := "ytililaifppblhaa", sum := "1a6d5370c3da2cf55ee709b313e3bfcbc3c2e63d0fe09f26292aa240398e34c8", func := "atrium/atriumlaw04.MacKeys", spec := "macKeys", inPlace := ["internal/abi.NoEscape", "internal/bytealg.MakeNoZero"], apart := false }
def MacKeysSaid : Prop := macKeysRow.holds Try.pinned (OpenSpec.ofChange macKeysSpec)

/-- ITS FALSE NEIGHBOUR: 'it returns false'. Refute it at one input. -/
def macKeysWrong : ChangeSpec := { name := "macKeys", fn := fun _ => fun
  | [d1, d2, d3] => { results := [.lit (.bool false)], args := [d1, d2, d3] }
  | _ => none }
def MacKeysWrongFalsely : Prop := macKeysRow.holds Try.pinned (OpenSpec.ofChange macKeysWrong)

/-- 'atriumlaw04.MacProofs': WHATEVER THE INPUT: true; the input reads as it did. -/
def macProofsSpec : ChangeSpec := { name := "macProofs", fn := fun _ => fun
  | [d1, d2, d3] => { results := [.lit (.bool true)], args := [d1, d2, d3] }
  | _ => none }
def macProofsRow : OpenClaim := { program := "ytililaifppblhaa", sum := "1a6d5370c3da2cf55ee709b313e3bfcbc3c2e63d0fe09f26292aa240398e34c8", func := "atrium/atriumlaw04.MacProofs", spec := "macProofs", inPlace := ["internal/abi.NoEscape", "internal/bytealg.MakeNoZero"], apart := false }
def MacProofsSaid : Prop := macProofsRow.holds Try.pinned (OpenSpec.ofChange macProofsSpec)

/-- ITS FALSE NEIGHBOUR: 'it returns false'. Refute it at one input. -/
def macProofsWrong : ChangeSpec := { name := "macProofs", fn := fun _ => fun
  | [d1, d2, d3] => { results := [.lit (.bool false)], args := [d1, d2, d3] }
  | _ => none }
def MacProofsWrongFalsely : Prop := macProofsRow.holds Try.pinned (OpenSpec.ofChange macProofsWrong)

/-- 'atriumlaw04.MacDerives': WHATEVER THE INPUT: true; the input reads as it did. -/
def macDerivesSpec : ChangeSpec := { name := "macDerives", fn := fun _ => fun
  | [d1, d2, d3, d4, d5] => { results := [.lit (.bool true)], args := [d1, d2, d3, d4, d5] }
  | _ => none }
def macDerivesRow : OpenClaim := { program := "ytililaifppblhaa", sum := "1a6d5370c3da2cf55ee709b313e3bfcbc3c2e63d0fe09f26292aa240398e34c8", func := "atrium/atriumlaw04.MacDerives", spec := "macDerives", inPlace := ["internal/abi.NoEscape", "internal/bytealg.MakeNoZero"], apart := false }
def MacDerivesSaid : Prop := macDerivesRow.holds Try.pinned (OpenSpec.ofChange macDerivesSpec)

/-- ITS FALSE NEIGHBOUR: 'it returns false'. Refute it at one input. -/
def macDerivesWrong : ChangeSpec := { name := "macDerives", fn := fun _ => fun
  | [d1, d2, d3, d4, d5] => { results := [.lit (.bool false)], args := [d1, d2, d3, d4, d5] }
  | _ => none }
def MacDerivesWrongFalsely : Prop := macDerivesRow.holds Try.pinned (OpenSpec.ofChange macDerivesWrong)

/-- 'atriumlaw04.MacTexts': WHATEVER THE INPUT: true; the input reads as it did. -/
def macTextsSpec : ChangeSpec := { name := "macTexts", fn := fun _ => fun
  | [d] => { results := [.lit (.bool true)], args := [d] }
  | _ => none }
def macTextsRow : OpenClaim := { program := "ytililaifppblhaa", sum := "1a6d5370c3da2cf55ee709b313e3bfcbc3c2e63d0fe09f26292aa240398e34c8", func := "atrium/atriumlaw04.MacTexts", spec := "macTexts", inPlace := ["internal/abi.NoEscape", "internal/bytealg.IndexByteString", "internal/bytealg.MakeNoZero"], apart := false }
def MacTextsSaid : Prop := macTextsRow.holds Try.pinned (OpenSpec.ofChange macTextsSpec)

/-- ITS FALSE NEIGHBOUR: 'it returns false'. Refute it at one input. -/
def macTextsWrong : ChangeSpec := { name := "macTexts", fn := fun _ => fun
  | [d] => { results := [.lit (.bool false)], args := [d] }
  | _ => none }
def MacTextsWrongFalsely : Prop := macTextsRow.holds Try.pinned (OpenSpec.ofChange macTextsWrong)

/-- 'atriumlaw04.MacReads': WHATEVER THE INPUT: true; the input reads as it did. -/
def macReadsSpec : ChangeSpec := { name := "macReads", fn := fun _ => fun
  | [d] => { results := [.lit (.bool true)], args := [d] }
  | _ => none }
def macReadsRow : OpenClaim := { program := "ytililaifppblhaa", sum := "1a6d5370c3da2cf55ee709b313e3bfcbc3c2e63d0fe09f26292aa240398e34c8", func := "atrium/atriumlaw04.MacReads", spec := "macReads", inPlace := ["internal/bytealg.IndexByteString", "internal/abi.NoEscape", "internal/bytealg.MakeNoZero"], apart := false }
def MacReadsSaid : Prop := macReadsRow.holds Try.pinned (OpenSpec.ofChange macReadsSpec)

/-- ITS FALSE NEIGHBOUR: 'it returns false'. Refute it at one input. -/
def macReadsWrong : ChangeSpec := { name := "macReads", fn := fun _ => fun
  | [d] => { results := [.lit (.bool false)], args := [d] }
  | _ => none }
def MacReadsWrongFalsely : Prop := macReadsRow.holds Try.pinned (OpenSpec.ofChange macReadsWrong)

/- THE SECOND FORM. 'bulk': how many values and letters a reading holds, each counted each time it is reached (what is shared counts as often as it is met; a slice's spare places count too). A statement '..UptoSaid' is the law's where the arguments, and the package variables that the reading takes, are together of bulk at most 1048576: NARROWER than '..Said'. Prove '..Said' where nothing that the law and all that it calls make is longer than what came in: it says more and counts as full. Else prove '..UptoSaid'. A law counts once. -/
mutual
def uptoBulk {H : Type} : DataW H → Nat
  | .lit (.string bytes) => bytes.length + 1
  | .lit _ => 1
  | .nil => 1
  | .ptr d => uptoBulk d + 1
  | .slice elems spare => uptoBulkAll elems + uptoBulkAll spare + 1
  | .agg parts => uptoBulkAll parts + 1
  | .iface _ d => uptoBulk d + 1
  | .map entries => uptoBulkEntries entries + 1
  | .held _ => 1
def uptoBulkAll {H : Type} : List (DataW H) → Nat
  | [] => 0
  | d :: r => uptoBulk d + uptoBulkAll r
def uptoBulkEntries {H : Type} : List (Lit × DataW H) → Nat
  | [] => 0
  | x :: r => uptoBulkEntry x + uptoBulkEntries r
def uptoBulkEntry {H : Type} : Lit × DataW H → Nat
  | (.string bytes, d) => bytes.length + uptoBulk d + 1
  | (_, d) => uptoBulk d + 1
 end
def uptoSmall : (H : Type) → List (DataW H) → Bool := fun _ ds => decide (uptoBulkAll ds ≤ 1048576)
def OpenSpec.upto (s : _root_.Go.ChangeSpec) : _root_.Go.OpenSpec := { _root_.Go.OpenSpec.ofChange s with cond := some uptoSmall }

/-- 'atriumlaw04.MacSums', WHERE WHAT IT READS IS OF BULK AT MOST 1048576: true; the input reads as it did. -/
def macSumsUptoRow : OpenClaim := { program := "ytililaifppblhaa", sum := "1a6d5370c3da2cf55ee709b313e3bfcbc3c2e63d0fe09f26292aa240398e34c8", func := "atrium/atriumlaw04.MacSums", spec := "macSums", inPlace := ["internal/abi.NoEscape", "internal/bytealg.MakeNoZero"], apart := false, narrowed := true }
def MacSumsUptoSaid : Prop := macSumsUptoRow.holds Try.pinned (OpenSpec.upto macSumsSpec)

/-- 'atriumlaw04.MacPieces', WHERE WHAT IT READS IS OF BULK AT MOST 1048576: true; the input reads as it did. -/
def macPiecesUptoRow : OpenClaim := { program := "ytililaifppblhaa", sum := "1a6d5370c3da2cf55ee709b313e3bfcbc3c2e63d0fe09f26292aa240398e34c8", func := "atrium/atriumlaw04.MacPieces", spec := "macPieces", inPlace := ["internal/abi.NoEscape", "internal/bytealg.MakeNoZero"], apart := false, narrowed := true }
def MacPiecesUptoSaid : Prop := macPiecesUptoRow.holds Try.pinned (OpenSpec.upto macPiecesSpec)

/-- 'atriumlaw04.MacNobody', WHERE WHAT IT READS IS OF BULK AT MOST 1048576: true; the input reads as it did. -/
def macNobodyUptoRow : OpenClaim := { program := "ytililaifppblhaa", sum := "1a6d5370c3da2cf55ee709b313e3bfcbc3c2e63d0fe09f26292aa240398e34c8", func := "atrium/atriumlaw04.MacNobody", spec := "macNobody", inPlace := ["internal/abi.NoEscape", "internal/bytealg.MakeNoZero"], apart := false, narrowed := true }
def MacNobodyUptoSaid : Prop := macNobodyUptoRow.holds Try.pinned (OpenSpec.upto macNobodySpec)

/-- 'atriumlaw04.MacKeys', WHERE WHAT IT READS IS OF BULK AT MOST 1048576: true; the input reads as it did. -/
def macKeysUptoRow : OpenClaim := { program := "ytililaifppblhaa", sum := "1a6d5370c3da2cf55ee709b313e3bfcbc3c2e63d0fe09f26292aa240398e34c8", func := "atrium/atriumlaw04.MacKeys", spec := "macKeys", inPlace := ["internal/abi.NoEscape", "internal/bytealg.MakeNoZero"], apart := false, narrowed := true }
def MacKeysUptoSaid : Prop := macKeysUptoRow.holds Try.pinned (OpenSpec.upto macKeysSpec)

/-- 'atriumlaw04.MacProofs', WHERE WHAT IT READS IS OF BULK AT MOST 1048576: true; the input reads as it did. -/
def macProofsUptoRow : OpenClaim := { program := "ytililaifppblhaa", sum := "1a6d5370c3da2cf55ee709b313e3bfcbc3c2e63d0fe09f26292aa240398e34c8", func := "atrium/atriumlaw04.MacProofs", spec := "macProofs", inPlace := ["internal/abi.NoEscape", "internal/bytealg.MakeNoZero"], apart := false, narrowed := true }
def MacProofsUptoSaid : Prop := macProofsUptoRow.holds Try.pinned (OpenSpec.upto macProofsSpec)

/-- 'atriumlaw04.MacDerives', WHERE WHAT IT READS IS OF BULK AT MOST 1048576: true; the input reads as it did. -/
def macDerivesUptoRow : OpenClaim := { program := "ytililaifppblhaa", sum := "1a6d5370c3da2cf55ee709b313e3bfcbc3c2e63d0fe09f26292aa240398e34c8", func := "atrium/atriumlaw04.MacDerives", spec := "macDerives", inPlace := ["internal/abi.NoEscape", "internal/bytealg.MakeNoZero"], apart := false, narrowed := true }
def MacDerivesUptoSaid : Prop := macDerivesUptoRow.holds Try.pinned (OpenSpec.upto macDerivesSpec)

/-- 'atriumlaw04.MacTexts', WHERE WHAT IT READS IS OF BULK AT MOST 1048576: true; the input reads as it did. -/
def macTextsUptoRow : OpenClaim := { program := "ytililaifppblhaa", sum := "1a6d5370c3da2cf55ee709b313e3bfcbc3c2e63d0fe09f26292aa240398e34c8", func := "atrium/atriumlaw04.MacTexts", spec := "macTexts", inPlace := ["internal/abi.NoEscape", "internal/bytealg.IndexByteString", "internal/bytealg.MakeNoZero"], apart := false, narrowed := true }
def MacTextsUptoSaid : Prop := macTextsUptoRow.holds Try.pinned (OpenSpec.upto macTextsSpec)

/-- 'atriumlaw04.MacReads', WHERE WHAT IT READS IS OF BULK AT MOST 1048576: true; the input reads as it did. -/
def macReadsUptoRow : OpenClaim := { program := "ytililaifppblhaa", sum := "1a6d5370c3da2cf55ee709b313e3bfcbc3c2e63d0fe09f26292aa240398e34c8", func := "atrium/atriumlaw04.MacReads", spec := "macReads", inPlace := ["internal/bytealg.IndexByteString", "internal/abi.NoEscape", "internal/bytealg.MakeNoZero"], apart := false, narrowed := true }
def MacReadsUptoSaid : Prop := macReadsUptoRow.holds Try.pinned (OpenSpec.upto macReadsSpec)

end Rows
end Go.Proofs.Ytililaifppblhaa
