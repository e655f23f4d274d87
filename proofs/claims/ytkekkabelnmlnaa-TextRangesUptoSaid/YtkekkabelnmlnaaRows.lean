/-
  No cell of these rows narrows 'for every input' (looked for: loops, veiled, ifaces, maps, wideKeys, modest, calm, conditions, laid).
  DERIVED. THE GIVEN ROWS OF THIS SEAT. 6 by the template 'for every input the law returns true; each argument reads behind the call as it read before'; 0 by the template 'total and deterministic' (their statements: YtkekkabelnmlnaaTotals.lean).
  GIVEN WITH THE SEED: the statements are not yours to turn. If you find one false, say at which input.
  Laid BY PROGRAM, IN A SANDBOX (cutbox-rows.mjs): the forced cells as the released guide's own fill.sh prints them over the translation 155925bb264fd366… (all of the seat's roots in one cut). By AI agents, Wed Nov 11 2026. No macro, syntax, notation, axiom, sorry.
-/
import Derived.Test.YtkekkabelnmlnaaChecked
import GoSem.Claim
import GoSem.ClaimJoined
import GoSem.ClaimMapViews
import Derived.JoinedTies
import Derived.KernelRfl
namespace Go.Proofs.Ytkekkabelnmlnaa
/- THE CELL 'sum', in the pinned program and in every row, IS THE sha256 OF THE DUMP (.gsa) THAT YtkekkabelnmlnaaProg.lean LOADS. Nothing in Lean hashes anything: it is a label: what it is worth is what the hold of that sum in a sandbox is worth. -/
noncomputable def Try.pinned : Pinned := { name := "ytkekkabelnmlnaa", sum := "155925bb264fd3663932a87744faa3152fb8f68b0c5ae615db419e5970227879", checked := Try.checked }
namespace Rows
def none {H : Type} : Left H := { results := [], args := [] }

/-- 'atriumlaw15.TextDigits': WHATEVER THE INPUT: true; the input reads as it did. -/
def textDigitsSpec : ChangeSpec := { name := "textDigits", fn := fun _ => fun
  | [d1, d2] => { results := [.lit (.bool true)], args := [d1, d2] }
  | _ => none }
def textDigitsRow : OpenClaim := { program := "ytkekkabelnmlnaa", sum := "155925bb264fd3663932a87744faa3152fb8f68b0c5ae615db419e5970227879", func := "atrium/atriumlaw15.TextDigits", spec := "textDigits", inPlace := ["internal/bytealg.IndexByteString"], unfollowed := true, recurses := true, apart := false }
def TextDigitsSaid : Prop := textDigitsRow.holds Try.pinned (OpenSpec.ofChange textDigitsSpec)

/-- ITS FALSE NEIGHBOUR: 'it returns false'. Refute it at one input. -/
def textDigitsWrong : ChangeSpec := { name := "textDigits", fn := fun _ => fun
  | [d1, d2] => { results := [.lit (.bool false)], args := [d1, d2] }
  | _ => none }
def TextDigitsWrongFalsely : Prop := textDigitsRow.holds Try.pinned (OpenSpec.ofChange textDigitsWrong)

/-- 'atriumlaw15.TextEscapes': WHATEVER THE INPUT: true; the input reads as it did. -/
def textEscapesSpec : ChangeSpec := { name := "textEscapes", fn := fun _ => fun
  | [d] => { results := [.lit (.bool true)], args := [d] }
  | _ => none }
def textEscapesRow : OpenClaim := { program := "ytkekkabelnmlnaa", sum := "155925bb264fd3663932a87744faa3152fb8f68b0c5ae615db419e5970227879", func := "atrium/atriumlaw15.TextEscapes", spec := "textEscapes", inPlace := ["internal/bytealg.IndexByteString"], unfollowed := true, recurses := true, apart := false }
def TextEscapesSaid : Prop := textEscapesRow.holds Try.pinned (OpenSpec.ofChange textEscapesSpec)

/-- ITS FALSE NEIGHBOUR: 'it returns false'. Refute it at one input. -/
def textEscapesWrong : ChangeSpec := { name := "textEscapes", fn := fun _ => fun
  | [d] => { results := [.lit (.bool false)], args := [d] }
  | _ => none }
def TextEscapesWrongFalsely : Prop := textEscapesRow.holds Try.pinned (OpenSpec.ofChange textEscapesWrong)

/-- 'atriumlaw15.TextSizes': WHATEVER THE INPUT: true; the input reads as it did. -/
def textSizesSpec : ChangeSpec := { name := "textSizes", fn := fun _ => fun
  | [d] => { results := [.lit (.bool true)], args := [d] }
  | _ => none }
def textSizesRow : OpenClaim := { program := "ytkekkabelnmlnaa", sum := "155925bb264fd3663932a87744faa3152fb8f68b0c5ae615db419e5970227879", func := "atrium/atriumlaw15.TextSizes", spec := "textSizes", inPlace := ["internal/bytealg.IndexByteString"], unfollowed := true, recurses := true, apart := false }
def TextSizesSaid : Prop := textSizesRow.holds Try.pinned (OpenSpec.ofChange textSizesSpec)

/-- ITS FALSE NEIGHBOUR: 'it returns false'. Refute it at one input. -/
def textSizesWrong : ChangeSpec := { name := "textSizes", fn := fun _ => fun
  | [d] => { results := [.lit (.bool false)], args := [d] }
  | _ => none }
def TextSizesWrongFalsely : Prop := textSizesRow.holds Try.pinned (OpenSpec.ofChange textSizesWrong)

/-- 'atriumlaw15.TextRunes': WHATEVER THE INPUT: true; the input reads as it did. -/
def textRunesSpec : ChangeSpec := { name := "textRunes", fn := fun _ => fun
  | [d] => { results := [.lit (.bool true)], args := [d] }
  | _ => none }
def textRunesRow : OpenClaim := { program := "ytkekkabelnmlnaa", sum := "155925bb264fd3663932a87744faa3152fb8f68b0c5ae615db419e5970227879", func := "atrium/atriumlaw15.TextRunes", spec := "textRunes", inPlace := ["internal/bytealg.IndexByteString"], unfollowed := true, recurses := true, apart := false }
def TextRunesSaid : Prop := textRunesRow.holds Try.pinned (OpenSpec.ofChange textRunesSpec)

/-- ITS FALSE NEIGHBOUR: 'it returns false'. Refute it at one input. -/
def textRunesWrong : ChangeSpec := { name := "textRunes", fn := fun _ => fun
  | [d] => { results := [.lit (.bool false)], args := [d] }
  | _ => none }
def TextRunesWrongFalsely : Prop := textRunesRow.holds Try.pinned (OpenSpec.ofChange textRunesWrong)

/-- 'atriumlaw15.TextEncodes': WHATEVER THE INPUT: true; the input reads as it did. -/
def textEncodesSpec : ChangeSpec := { name := "textEncodes", fn := fun _ => fun
  | [d1, d2] => { results := [.lit (.bool true)], args := [d1, d2] }
  | _ => none }
def textEncodesRow : OpenClaim := { program := "ytkekkabelnmlnaa", sum := "155925bb264fd3663932a87744faa3152fb8f68b0c5ae615db419e5970227879", func := "atrium/atriumlaw15.TextEncodes", spec := "textEncodes", inPlace := ["internal/abi.NoEscape", "internal/bytealg.IndexByteString"], unfollowed := true, recurses := true, apart := false }
def TextEncodesSaid : Prop := textEncodesRow.holds Try.pinned (OpenSpec.ofChange textEncodesSpec)

/-- ITS FALSE NEIGHBOUR: 'it returns false'. Refute it at one input. -/
def textEncodesWrong : ChangeSpec := { name := "textEncodes", fn := fun _ => fun
  | [d1, d2] => { results := [.lit (.bool false)], args := [d1, d2] }
  | _ => none }
def TextEncodesWrongFalsely : Prop := textEncodesRow.holds Try.pinned (OpenSpec.ofChange textEncodesWrong)

/-- 'atriumlaw15.TextRanges': WHATEVER THE INPUT: true; the input reads as it did. -/
def textRangesSpec : ChangeSpec := { name := "textRanges", fn := fun _ => fun
  | [d] => { results := [.lit (.bool true)], args := [d] }
  | _ => none }
def textRangesRow : OpenClaim := { program := "ytkekkabelnmlnaa", sum := "155925bb264fd3663932a87744faa3152fb8f68b0c5ae615db419e5970227879", func := "atrium/atriumlaw15.TextRanges", spec := "textRanges", inPlace := ["internal/bytealg.IndexByteString", "internal/abi.NoEscape"], unfollowed := true, recurses := true, apart := false }
def TextRangesSaid : Prop := textRangesRow.holds Try.pinned (OpenSpec.ofChange textRangesSpec)

/-- ITS FALSE NEIGHBOUR: 'it returns false'. Refute it at one input. -/
def textRangesWrong : ChangeSpec := { name := "textRanges", fn := fun _ => fun
  | [d] => { results := [.lit (.bool false)], args := [d] }
  | _ => none }
def TextRangesWrongFalsely : Prop := textRangesRow.holds Try.pinned (OpenSpec.ofChange textRangesWrong)

/- THE SECOND FORM. 'bulk': how many values and letters a reading holds, each counted each time it is reached (what is shared counts as often as it is met; a slice's spare places count too). A statement '..UptoSaid' is the law's where the arguments, and the package variables that the reading takes, are together of bulk at most 1048576: NARROWER than '..Said'. Prove '..Said' where nothing that the law and all that it calls make is longer than what came in: it says more and counts as full. Else prove '..UptoSaid'. A law counts once. -/
mutual
def uptoBulk {H : Type} : DataW H → Nat
  | .lit (.string bytes) => bytes.length + 1
  | .lit _ => 1
  | .nil => 1
  | .ptr d => uptoBulk d + 1
  | .slice elems spare => uptoBulkAll elems + uptoBulkAll spare + 1
  | .agg parts => uptoBulkAll parts + 1
  | .iface _ d => uptoBulk d + 1
  | .map entries => uptoBulkEntries entries + 1
  | .held _ => 1
def uptoBulkAll {H : Type} : List (DataW H) → Nat
  | [] => 0
  | d :: r => uptoBulk d + uptoBulkAll r
def uptoBulkEntries {H : Type} : List (Lit × DataW H) → Nat
  | [] => 0
  | x :: r => uptoBulkEntry x + uptoBulkEntries r
def uptoBulkEntry {H : Type} : Lit × DataW H → Nat
  | (.string bytes, d) => bytes.length + uptoBulk d + 1
  | (_, d) => uptoBulk d + 1
 end
def uptoSmall : (H : Type) → List (DataW H) → Bool := fun _ ds => decide (uptoBulkAll ds ≤ 1048576)
def OpenSpec.upto (s : _root_.Go.ChangeSpec) : _root_.Go.OpenSpec := { _root_.Go.OpenSpec.ofChange s with cond := some uptoSmall }

/-- 'atriumlaw15.TextDigits', WHERE WHAT IT READS IS OF BULK AT MOST 1048576: true; the input reads as it did. -/
def textDigitsUptoRow : OpenClaim := { program := "ytkekkabelnmlnaa", sum := "155925bb264fd3663932a87744faa3152fb8f68b0c5ae615db419e5970227879", func := "atrium/atriumlaw15.TextDigits", spec := "textDigits", inPlace := ["internal/bytealg.IndexByteString"], unfollowed := true, recurses := true, apart := false, narrowed := true }
def TextDigitsUptoSaid : Prop := textDigitsUptoRow.holds Try.pinned (OpenSpec.upto textDigitsSpec)

/-- 'atriumlaw15.TextEscapes', WHERE WHAT IT READS IS OF BULK AT MOST 1048576: true; the input reads as it did. -/
def textEscapesUptoRow : OpenClaim := { program := "ytkekkabelnmlnaa", sum := "155925bb264fd3663932a87744faa3152fb8f68b0c5ae615db419e5970227879", func := "atrium/atriumlaw15.TextEscapes", spec := "textEscapes", inPlace := ["internal/bytealg.IndexByteString"], unfollowed := true, recurses := true, apart := false, narrowed := true }
def TextEscapesUptoSaid : Prop := textEscapesUptoRow.holds Try.pinned (OpenSpec.upto textEscapesSpec)

/-- 'atriumlaw15.TextSizes', WHERE WHAT IT READS IS OF BULK AT MOST 1048576: true; the input reads as it did. -/
def textSizesUptoRow : OpenClaim := { program := "ytkekkabelnmlnaa", sum := "155925bb264fd3663932a87744faa3152fb8f68b0c5ae615db419e5970227879", func := "atrium/atriumlaw15.TextSizes", spec := "textSizes", inPlace := ["internal/bytealg.IndexByteString"], unfollowed := true, recurses := true, apart := false, narrowed := true }
def TextSizesUptoSaid : Prop := textSizesUptoRow.holds Try.pinned (OpenSpec.upto textSizesSpec)

/-- 'atriumlaw15.TextRunes', WHERE WHAT IT READS IS OF BULK AT MOST 1048576: true; the input reads as it did. -/
def textRunesUptoRow : OpenClaim := { program := "ytkekkabelnmlnaa", sum := "155925bb264fd3663932a87744faa3152fb8f68b0c5ae615db419e5970227879", func := "atrium/atriumlaw15.TextRunes", spec := "textRunes", inPlace := ["internal/bytealg.IndexByteString"], unfollowed := true, recurses := true, apart := false, narrowed := true }
def TextRunesUptoSaid : Prop := textRunesUptoRow.holds Try.pinned (OpenSpec.upto textRunesSpec)

/-- 'atriumlaw15.TextEncodes', WHERE WHAT IT READS IS OF BULK AT MOST 1048576: true; the input reads as it did. -/
def textEncodesUptoRow : OpenClaim := { program := "ytkekkabelnmlnaa", sum := "155925bb264fd3663932a87744faa3152fb8f68b0c5ae615db419e5970227879", func := "atrium/atriumlaw15.TextEncodes", spec := "textEncodes", inPlace := ["internal/abi.NoEscape", "internal/bytealg.IndexByteString"], unfollowed := true, recurses := true, apart := false, narrowed := true }
def TextEncodesUptoSaid : Prop := textEncodesUptoRow.holds Try.pinned (OpenSpec.upto textEncodesSpec)

/-- 'atriumlaw15.TextRanges', WHERE WHAT IT READS IS OF BULK AT MOST 1048576: true; the input reads as it did. -/
def textRangesUptoRow : OpenClaim := { program := "ytkekkabelnmlnaa", sum := "155925bb264fd3663932a87744faa3152fb8f68b0c5ae615db419e5970227879", func := "atrium/atriumlaw15.TextRanges", spec := "textRanges", inPlace := ["internal/bytealg.IndexByteString", "internal/abi.NoEscape"], unfollowed := true, recurses := true, apart := false, narrowed := true }
def TextRangesUptoSaid : Prop := textRangesUptoRow.holds Try.pinned (OpenSpec.upto textRangesSpec)

end Rows
end Go.Proofs.Ytkekkabelnmlnaa
