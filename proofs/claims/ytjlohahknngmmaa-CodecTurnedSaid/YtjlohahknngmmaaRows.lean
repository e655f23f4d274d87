/-
  No cell of these rows narrows 'for every input' (looked for: loops, veiled, ifaces, maps, wideKeys, modest, calm, conditions, laid).
  DERIVED. THE GIVEN ROWS OF THIS SEAT. 8 by the template 'for every input the law returns true; each argument reads behind the call as it read before'; 0 by the template 'total and deterministic' (their statements: YtjlohahknngmmaaTotals.lean).
  GIVEN WITH THE SEED: the statements are not yours to turn. If you find one false, say at which input.
  Laid BY PROGRAM, IN A SANDBOX (cutbox-rows.mjs): the forced cells as the released guide's own fill.sh prints them over the translation 6d37f233879502f8… (all of the seat's roots in one cut). By AI agents, Wed Nov 11 2026. No macro, syntax, notation, axiom, sorry.
-/
import Derived.Test.YtjlohahknngmmaaChecked
import GoSem.Claim
import GoSem.ClaimJoined
import GoSem.ClaimMapViews
import Derived.JoinedTies
import Derived.KernelRfl
namespace Go.Proofs.Ytjlohahknngmmaa
/- THE CELL 'sum', in the pinned program and in every row, IS THE sha256 OF THE DUMP (.gsa) THAT YtjlohahknngmmaaProg.lean LOADS. Nothing in Lean hashes anything: it is a label: what it is worth is what the hold of that sum in a sandbox is worth. -/
noncomputable def Try.pinned : Pinned := { name := "ytjlohahknngmmaa", sum := "6d37f233879502f8d7f1325f0e062a56ea26c255fc1369ee351f7ee998721bae", checked := Try.checked }
namespace Rows
def none {H : Type} : Left H := { results := [], args := [] }

/-- 'atriumlaw02.CodecShortest': WHATEVER THE INPUT: true; the input reads as it did. -/
def codecShortestSpec : ChangeSpec := { name := "codecShortest", fn := fun _ => fun
  | [d1, d2, d3] => { results := [.lit (.bool true)], args := [d1, d2, d3] }
  | _ => none }
def codecShortestRow : OpenClaim := { program := "ytjlohahknngmmaa", sum := "6d37f233879502f8d7f1325f0e062a56ea26c255fc1369ee351f7ee998721bae", func := "atrium/atriumlaw02.CodecShortest", spec := "codecShortest", apart := false }
def CodecShortestSaid : Prop := codecShortestRow.holds Try.pinned (OpenSpec.ofChange codecShortestSpec)

/-- ITS FALSE NEIGHBOUR: 'it returns false'. Refute it at one input. -/
def codecShortestWrong : ChangeSpec := { name := "codecShortest", fn := fun _ => fun
  | [d1, d2, d3] => { results := [.lit (.bool false)], args := [d1, d2, d3] }
  | _ => none }
def CodecShortestWrongFalsely : Prop := codecShortestRow.holds Try.pinned (OpenSpec.ofChange codecShortestWrong)

/-- 'atriumlaw02.CodecReads': WHATEVER THE INPUT: true; the input reads as it did. -/
def codecReadsSpec : ChangeSpec := { name := "codecReads", fn := fun _ => fun
  | [d1, d2] => { results := [.lit (.bool true)], args := [d1, d2] }
  | _ => none }
def codecReadsRow : OpenClaim := { program := "ytjlohahknngmmaa", sum := "6d37f233879502f8d7f1325f0e062a56ea26c255fc1369ee351f7ee998721bae", func := "atrium/atriumlaw02.CodecReads", spec := "codecReads", apart := false }
def CodecReadsSaid : Prop := codecReadsRow.holds Try.pinned (OpenSpec.ofChange codecReadsSpec)

/-- ITS FALSE NEIGHBOUR: 'it returns false'. Refute it at one input. -/
def codecReadsWrong : ChangeSpec := { name := "codecReads", fn := fun _ => fun
  | [d1, d2] => { results := [.lit (.bool false)], args := [d1, d2] }
  | _ => none }
def CodecReadsWrongFalsely : Prop := codecReadsRow.holds Try.pinned (OpenSpec.ofChange codecReadsWrong)

/-- 'atriumlaw02.CodecWrites': WHATEVER THE INPUT: true; the input reads as it did. -/
def codecWritesSpec : ChangeSpec := { name := "codecWrites", fn := fun _ => fun
  | [d1, d2] => { results := [.lit (.bool true)], args := [d1, d2] }
  | _ => none }
def codecWritesRow : OpenClaim := { program := "ytjlohahknngmmaa", sum := "6d37f233879502f8d7f1325f0e062a56ea26c255fc1369ee351f7ee998721bae", func := "atrium/atriumlaw02.CodecWrites", spec := "codecWrites", apart := false }
def CodecWritesSaid : Prop := codecWritesRow.holds Try.pinned (OpenSpec.ofChange codecWritesSpec)

/-- ITS FALSE NEIGHBOUR: 'it returns false'. Refute it at one input. -/
def codecWritesWrong : ChangeSpec := { name := "codecWrites", fn := fun _ => fun
  | [d1, d2] => { results := [.lit (.bool false)], args := [d1, d2] }
  | _ => none }
def CodecWritesWrongFalsely : Prop := codecWritesRow.holds Try.pinned (OpenSpec.ofChange codecWritesWrong)

/-- 'atriumlaw02.CodecBack': WHATEVER THE INPUT: true; the input reads as it did. -/
def codecBackSpec : ChangeSpec := { name := "codecBack", fn := fun _ => fun
  | [d] => { results := [.lit (.bool true)], args := [d] }
  | _ => none }
def codecBackRow : OpenClaim := { program := "ytjlohahknngmmaa", sum := "6d37f233879502f8d7f1325f0e062a56ea26c255fc1369ee351f7ee998721bae", func := "atrium/atriumlaw02.CodecBack", spec := "codecBack", apart := false }
def CodecBackSaid : Prop := codecBackRow.holds Try.pinned (OpenSpec.ofChange codecBackSpec)

/-- ITS FALSE NEIGHBOUR: 'it returns false'. Refute it at one input. -/
def codecBackWrong : ChangeSpec := { name := "codecBack", fn := fun _ => fun
  | [d] => { results := [.lit (.bool false)], args := [d] }
  | _ => none }
def CodecBackWrongFalsely : Prop := codecBackRow.holds Try.pinned (OpenSpec.ofChange codecBackWrong)

/-- 'atriumlaw02.CodecUnframes': WHATEVER THE INPUT: true; the input reads as it did. -/
def codecUnframesSpec : ChangeSpec := { name := "codecUnframes", fn := fun _ => fun
  | [d] => { results := [.lit (.bool true)], args := [d] }
  | _ => none }
def codecUnframesRow : OpenClaim := { program := "ytjlohahknngmmaa", sum := "6d37f233879502f8d7f1325f0e062a56ea26c255fc1369ee351f7ee998721bae", func := "atrium/atriumlaw02.CodecUnframes", spec := "codecUnframes", apart := false }
def CodecUnframesSaid : Prop := codecUnframesRow.holds Try.pinned (OpenSpec.ofChange codecUnframesSpec)

/-- ITS FALSE NEIGHBOUR: 'it returns false'. Refute it at one input. -/
def codecUnframesWrong : ChangeSpec := { name := "codecUnframes", fn := fun _ => fun
  | [d] => { results := [.lit (.bool false)], args := [d] }
  | _ => none }
def CodecUnframesWrongFalsely : Prop := codecUnframesRow.holds Try.pinned (OpenSpec.ofChange codecUnframesWrong)

/-- 'atriumlaw02.CodecNobody': WHATEVER THE INPUT: true; the input reads as it did. -/
def codecNobodySpec : ChangeSpec := { name := "codecNobody", fn := fun _ => fun
  | [d] => { results := [.lit (.bool true)], args := [d] }
  | _ => none }
def codecNobodyRow : OpenClaim := { program := "ytjlohahknngmmaa", sum := "6d37f233879502f8d7f1325f0e062a56ea26c255fc1369ee351f7ee998721bae", func := "atrium/atriumlaw02.CodecNobody", spec := "codecNobody", apart := false }
def CodecNobodySaid : Prop := codecNobodyRow.holds Try.pinned (OpenSpec.ofChange codecNobodySpec)

/-- ITS FALSE NEIGHBOUR: 'it returns false'. Refute it at one input. -/
def codecNobodyWrong : ChangeSpec := { name := "codecNobody", fn := fun _ => fun
  | [d] => { results := [.lit (.bool false)], args := [d] }
  | _ => none }
def CodecNobodyWrongFalsely : Prop := codecNobodyRow.holds Try.pinned (OpenSpec.ofChange codecNobodyWrong)

/-- 'atriumlaw02.CodecFrames': WHATEVER THE INPUT: true; the input reads as it did. -/
def codecFramesSpec : ChangeSpec := { name := "codecFrames", fn := fun _ => fun
  | [d1, d2, d3] => { results := [.lit (.bool true)], args := [d1, d2, d3] }
  | _ => none }
def codecFramesRow : OpenClaim := { program := "ytjlohahknngmmaa", sum := "6d37f233879502f8d7f1325f0e062a56ea26c255fc1369ee351f7ee998721bae", func := "atrium/atriumlaw02.CodecFrames", spec := "codecFrames", apart := false }
def CodecFramesSaid : Prop := codecFramesRow.holds Try.pinned (OpenSpec.ofChange codecFramesSpec)

/-- ITS FALSE NEIGHBOUR: 'it returns false'. Refute it at one input. -/
def codecFramesWrong : ChangeSpec := { name := "codecFrames", fn := fun _ => fun
  | [d1, d2, d3] => { results := [.lit (.bool false)], args := [d1, d2, d3] }
  | _ => none }
def CodecFramesWrongFalsely : Prop := codecFramesRow.holds Try.pinned (OpenSpec.ofChange codecFramesWrong)

/-- 'atriumlaw02.CodecTurned': WHATEVER THE INPUT: true; the input reads as it did. -/
def codecTurnedSpec : ChangeSpec := { name := "codecTurned", fn := fun _ => fun
  | [d] => { results := [.lit (.bool true)], args := [d] }
  | _ => none }
def codecTurnedRow : OpenClaim := { program := "ytjlohahknngmmaa", sum := "6d37f233879502f8d7f1325f0e062a56ea26c255fc1369ee351f7ee998721bae", func := "atrium/atriumlaw02.CodecTurned", spec := "codecTurned", apart := false }
def CodecTurnedSaid : Prop := codecTurnedRow.holds Try.pinned (OpenSpec.ofChange codecTurnedSpec)

/-- ITS FALSE NEIGHBOUR: 'it returns false'. Refute it at one input. -/
def codecTurnedWrong : ChangeSpec := { name := "codecTurned", fn := fun _ => fun
  | [d] => { results := [.lit (.bool false)], args := [d] }
  | _ => none }
def CodecTurnedWrongFalsely : Prop := codecTurnedRow.holds Try.pinned (OpenSpec.ofChange codecTurnedWrong)

/- THE SECOND FORM. 'bulk': how many values and letters a reading holds, each counted each time it is reached (what is shared counts as often as it is met; a slice's spare places count too). A statement '..UptoSaid' is the law's where the arguments, and the package variables that the reading takes, are together of bulk at most 1048576: NARROWER than '..Said'. Prove '..Said' where nothing that the law and all that it calls make is longer than what came in: it says more and counts as full. Else prove '..UptoSaid'. A law counts once. -/
mutual
def uptoBulk {H : Type} : DataW H → Nat
  | .lit (.string bytes) => bytes.length + 1
  | .lit _ => 1
  | .nil => 1
  | .ptr d => uptoBulk d + 1
  | .slice elems spare => uptoBulkAll elems + uptoBulkAll spare + 1
  | .agg parts => uptoBulkAll parts + 1
  | .iface _ d => uptoBulk d + 1
  | .map entries => uptoBulkEntries entries + 1
  | .held _ => 1
def uptoBulkAll {H : Type} : List (DataW H) → Nat
  | [] => 0
  | d :: r => uptoBulk d + uptoBulkAll r
def uptoBulkEntries {H : Type} : List (Lit × DataW H) → Nat
  | [] => 0
  | x :: r => uptoBulkEntry x + uptoBulkEntries r
def uptoBulkEntry {H : Type} : Lit × DataW H → Nat
  | (.string bytes, d) => bytes.length + uptoBulk d + 1
  | (_, d) => uptoBulk d + 1
 end
def uptoSmall : (H : Type) → List (DataW H) → Bool := fun _ ds => decide (uptoBulkAll ds ≤ 1048576)
def OpenSpec.upto (s : _root_.Go.ChangeSpec) : _root_.Go.OpenSpec := { _root_.Go.OpenSpec.ofChange s with cond := some uptoSmall }

/-- 'atriumlaw02.CodecShortest', WHERE WHAT IT READS IS OF BULK AT MOST 1048576: true; the input reads as it did. -/
def codecShortestUptoRow : OpenClaim := { program := "ytjlohahknngmmaa", sum := "6d37f233879502f8d7f1325f0e062a56ea26c255fc1369ee351f7ee998721bae", func := "atrium/atriumlaw02.CodecShortest", spec := "codecShortest", apart := false, narrowed := true }
def CodecShortestUptoSaid : Prop := codecShortestUptoRow.holds Try.pinned (OpenSpec.upto codecShortestSpec)

/-- 'atriumlaw02.CodecReads', WHERE WHAT IT READS IS OF BULK AT MOST 1048576: true; the input reads as it did. -/
def codecReadsUptoRow : OpenClaim := { program := "ytjlohahknngmmaa", sum := "6d37f233879502f8d7f1325f0e062a56ea26c255fc1369ee351f7ee998721bae", func := "atrium/atriumlaw02.CodecReads", spec := "codecReads", apart := false, narrowed := true }
def CodecReadsUptoSaid : Prop := codecReadsUptoRow.holds Try.pinned (OpenSpec.upto codecReadsSpec)

/-- 'atriumlaw02.CodecWrites', WHERE WHAT IT READS IS OF BULK AT MOST 1048576: true; the input reads as it did. -/
def codecWritesUptoRow : OpenClaim := { program := "ytjlohahknngmmaa", sum := "6d37f233879502f8d7f1325f0e062a56ea26c255fc1369ee351f7ee998721bae", func := "atrium/atriumlaw02.CodecWrites", spec := "codecWrites", apart := false, narrowed := true }
def CodecWritesUptoSaid : Prop := codecWritesUptoRow.holds Try.pinned (OpenSpec.upto codecWritesSpec)

/-- 'atriumlaw02.CodecBack', WHERE WHAT IT READS IS OF BULK AT MOST 1048576: true; the input reads as it did. -/
def codecBackUptoRow : OpenClaim := { program := "ytjlohahknngmmaa", sum := "6d37f233879502f8d7f1325f0e062a56ea26c255fc1369ee351f7ee998721bae", func := "atrium/atriumlaw02.CodecBack", spec := "codecBack", apart := false, narrowed := true }
def CodecBackUptoSaid : Prop := codecBackUptoRow.holds Try.pinned (OpenSpec.upto codecBackSpec)

/-- 'atriumlaw02.CodecUnframes', WHERE WHAT IT READS IS OF BULK AT MOST 1048576: true; the input reads as it did. -/
def codecUnframesUptoRow : OpenClaim := { program := "ytjlohahknngmmaa", sum := "6d37f233879502f8d7f1325f0e062a56ea26c255fc1369ee351f7ee998721bae", func := "atrium/atriumlaw02.CodecUnframes", spec := "codecUnframes", apart := false, narrowed := true }
def CodecUnframesUptoSaid : Prop := codecUnframesUptoRow.holds Try.pinned (OpenSpec.upto codecUnframesSpec)

/-- 'atriumlaw02.CodecNobody', WHERE WHAT IT READS IS OF BULK AT MOST 1048576: true; the input reads as it did. -/
def codecNobodyUptoRow : OpenClaim := { program := "ytjlohahknngmmaa", sum := "6d37f233879502f8d7f1325f0e062a56ea26c255fc1369ee351f7ee998721bae", func := "atrium/atriumlaw02.CodecNobody", spec := "codecNobody", apart := false, narrowed := true }
def CodecNobodyUptoSaid : Prop := codecNobodyUptoRow.holds Try.pinned (OpenSpec.upto codecNobodySpec)

/-- 'atriumlaw02.CodecFrames', WHERE WHAT IT READS IS OF BULK AT MOST 1048576: true; the input reads as it did. -/
def codecFramesUptoRow : OpenClaim := { program := "ytjlohahknngmmaa", sum := "6d37f233879502f8d7f1325f0e062a56ea26c255fc1369ee351f7ee998721bae", func := "atrium/atriumlaw02.CodecFrames", spec := "codecFrames", apart := false, narrowed := true }
def CodecFramesUptoSaid : Prop := codecFramesUptoRow.holds Try.pinned (OpenSpec.upto codecFramesSpec)

/-- 'atriumlaw02.CodecTurned', WHERE WHAT IT READS IS OF BULK AT MOST 1048576: true; the input reads as it did. -/
def codecTurnedUptoRow : OpenClaim := { program := "ytjlohahknngmmaa", sum := "6d37f233879502f8d7f1325f0e062a56ea26c255fc1369ee351f7ee998721bae", func := "atrium/atriumlaw02.CodecTurned", spec := "codecTurned", apart := false, narrowed := true }
def CodecTurnedUptoSaid : Prop := codecTurnedUptoRow.holds Try.pinned (OpenSpec.upto codecTurnedSpec)

end Rows
end Go.Proofs.Ytjlohahknngmmaa
