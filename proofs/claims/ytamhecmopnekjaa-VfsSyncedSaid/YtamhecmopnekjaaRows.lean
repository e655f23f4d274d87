/-
  No cell of these rows narrows 'for every input' (looked for: loops, veiled, ifaces, maps, wideKeys, modest, calm, conditions, laid).
  DERIVED. THE GIVEN ROWS OF THIS SEAT. 6 by the template 'for every input the law returns true; each argument reads behind the call as it read before'; 0 by the template 'total and deterministic' (their statements: YtamhecmopnekjaaTotals.lean).
  GIVEN WITH THE SEED: the statements are not yours to turn. If you find one false, say at which input.
  Laid BY PROGRAM, IN A SANDBOX (cutbox-rows.mjs): the forced cells as the released guide's own fill.sh prints them over the translation 26eef9aab4417f0d… (all of the seat's roots in one cut). By AI agents, Wed Nov 11 2026. No macro, syntax, notation, axiom, sorry.
-/
import Derived.Test.YtamhecmopnekjaaChecked
import GoSem.Claim
import GoSem.ClaimJoined
import GoSem.ClaimMapViews
import Derived.JoinedTies
import Derived.KernelRfl
namespace Go.Proofs.Ytamhecmopnekjaa
/- THE CELL 'sum', in the pinned program and in every row, IS THE sha256 OF THE DUMP (.gsa) THAT YtamhecmopnekjaaProg.lean LOADS. Nothing in Lean hashes anything: it is a label: what it is worth is what the hold of that sum in a sandbox is worth. -/
noncomputable def Try.pinned : Pinned := { name := "ytamhecmopnekjaa", sum := "26eef9aab4417f0dc212b09faacf2aec512504a9b462a9fd549b653ae3fbd64e", checked := Try.checked }
namespace Rows
def none {H : Type} : Left H := { results := [], args := [] }

/-- 'atriumlaw01.VfsSwitch': WHATEVER THE INPUT: true; the input reads as it did. -/
def vfsSwitchSpec : ChangeSpec := { name := "vfsSwitch", fn := fun _ => fun
  | [d1, d2, d3, d4] => { results := [.lit (.bool true)], args := [d1, d2, d3, d4] }
  | _ => none }
def vfsSwitchRow : OpenClaim := { program := "ytamhecmopnekjaa", sum := "26eef9aab4417f0dc212b09faacf2aec512504a9b462a9fd549b653ae3fbd64e", func := "atrium/atriumlaw01.VfsSwitch", spec := "vfsSwitch", inPlace := ["maps.clone"], unfollowed := true, recurses := true, plainKeys := false, apart := false }
def VfsSwitchSaid : Prop := vfsSwitchRow.holds Try.pinned (OpenSpec.ofChange vfsSwitchSpec)

/-- ITS FALSE NEIGHBOUR: 'it returns false'. Refute it at one input. -/
def vfsSwitchWrong : ChangeSpec := { name := "vfsSwitch", fn := fun _ => fun
  | [d1, d2, d3, d4] => { results := [.lit (.bool false)], args := [d1, d2, d3, d4] }
  | _ => none }
def VfsSwitchWrongFalsely : Prop := vfsSwitchRow.holds Try.pinned (OpenSpec.ofChange vfsSwitchWrong)

/-- 'atriumlaw01.VfsSynced': WHATEVER THE INPUT: true; the input reads as it did. -/
def vfsSyncedSpec : ChangeSpec := { name := "vfsSynced", fn := fun _ => fun
  | [d1, d2, d3, d4] => { results := [.lit (.bool true)], args := [d1, d2, d3, d4] }
  | _ => none }
def vfsSyncedRow : OpenClaim := { program := "ytamhecmopnekjaa", sum := "26eef9aab4417f0dc212b09faacf2aec512504a9b462a9fd549b653ae3fbd64e", func := "atrium/atriumlaw01.VfsSynced", spec := "vfsSynced", inPlace := ["maps.clone"], unfollowed := true, recurses := true, plainKeys := false, apart := false }
def VfsSyncedSaid : Prop := vfsSyncedRow.holds Try.pinned (OpenSpec.ofChange vfsSyncedSpec)

/-- ITS FALSE NEIGHBOUR: 'it returns false'. Refute it at one input. -/
def vfsSyncedWrong : ChangeSpec := { name := "vfsSynced", fn := fun _ => fun
  | [d1, d2, d3, d4] => { results := [.lit (.bool false)], args := [d1, d2, d3, d4] }
  | _ => none }
def VfsSyncedWrongFalsely : Prop := vfsSyncedRow.holds Try.pinned (OpenSpec.ofChange vfsSyncedWrong)

/-- 'atriumlaw01.VfsTwice': WHATEVER THE INPUT: true; the input reads as it did. -/
def vfsTwiceSpec : ChangeSpec := { name := "vfsTwice", fn := fun _ => fun
  | [d1, d2, d3, d4] => { results := [.lit (.bool true)], args := [d1, d2, d3, d4] }
  | _ => none }
def vfsTwiceRow : OpenClaim := { program := "ytamhecmopnekjaa", sum := "26eef9aab4417f0dc212b09faacf2aec512504a9b462a9fd549b653ae3fbd64e", func := "atrium/atriumlaw01.VfsTwice", spec := "vfsTwice", inPlace := ["maps.clone"], unfollowed := true, recurses := true, plainKeys := false, apart := false }
def VfsTwiceSaid : Prop := vfsTwiceRow.holds Try.pinned (OpenSpec.ofChange vfsTwiceSpec)

/-- ITS FALSE NEIGHBOUR: 'it returns false'. Refute it at one input. -/
def vfsTwiceWrong : ChangeSpec := { name := "vfsTwice", fn := fun _ => fun
  | [d1, d2, d3, d4] => { results := [.lit (.bool false)], args := [d1, d2, d3, d4] }
  | _ => none }
def VfsTwiceWrongFalsely : Prop := vfsTwiceRow.holds Try.pinned (OpenSpec.ofChange vfsTwiceWrong)

/-- 'atriumlaw01.VfsFull': WHATEVER THE INPUT: true; the input reads as it did. -/
def vfsFullSpec : ChangeSpec := { name := "vfsFull", fn := fun _ => fun
  | [d1, d2, d3, d4] => { results := [.lit (.bool true)], args := [d1, d2, d3, d4] }
  | _ => none }
def vfsFullRow : OpenClaim := { program := "ytamhecmopnekjaa", sum := "26eef9aab4417f0dc212b09faacf2aec512504a9b462a9fd549b653ae3fbd64e", func := "atrium/atriumlaw01.VfsFull", spec := "vfsFull", inPlace := ["maps.clone"], unfollowed := true, recurses := true, plainKeys := false, apart := false }
def VfsFullSaid : Prop := vfsFullRow.holds Try.pinned (OpenSpec.ofChange vfsFullSpec)

/-- ITS FALSE NEIGHBOUR: 'it returns false'. Refute it at one input. -/
def vfsFullWrong : ChangeSpec := { name := "vfsFull", fn := fun _ => fun
  | [d1, d2, d3, d4] => { results := [.lit (.bool false)], args := [d1, d2, d3, d4] }
  | _ => none }
def VfsFullWrongFalsely : Prop := vfsFullRow.holds Try.pinned (OpenSpec.ofChange vfsFullWrong)

/-- 'atriumlaw01.VfsAll': WHATEVER THE INPUT: true; the input reads as it did. -/
def vfsAllSpec : ChangeSpec := { name := "vfsAll", fn := fun _ => fun
  | [d1, d2] => { results := [.lit (.bool true)], args := [d1, d2] }
  | _ => none }
def vfsAllRow : OpenClaim := { program := "ytamhecmopnekjaa", sum := "26eef9aab4417f0dc212b09faacf2aec512504a9b462a9fd549b653ae3fbd64e", func := "atrium/atriumlaw01.VfsAll", spec := "vfsAll", inPlace := ["maps.clone"], unfollowed := true, recurses := true, plainKeys := false, apart := false }
def VfsAllSaid : Prop := vfsAllRow.holds Try.pinned (OpenSpec.ofChange vfsAllSpec)

/-- ITS FALSE NEIGHBOUR: 'it returns false'. Refute it at one input. -/
def vfsAllWrong : ChangeSpec := { name := "vfsAll", fn := fun _ => fun
  | [d1, d2] => { results := [.lit (.bool false)], args := [d1, d2] }
  | _ => none }
def VfsAllWrongFalsely : Prop := vfsAllRow.holds Try.pinned (OpenSpec.ofChange vfsAllWrong)

/-- 'atriumlaw01.VfsNobody': WHATEVER THE INPUT: true; the input reads as it did. -/
def vfsNobodySpec : ChangeSpec := { name := "vfsNobody", fn := fun _ => fun
  | [d1, d2, d3, d4] => { results := [.lit (.bool true)], args := [d1, d2, d3, d4] }
  | _ => none }
def vfsNobodyRow : OpenClaim := { program := "ytamhecmopnekjaa", sum := "26eef9aab4417f0dc212b09faacf2aec512504a9b462a9fd549b653ae3fbd64e", func := "atrium/atriumlaw01.VfsNobody", spec := "vfsNobody", inPlace := ["maps.clone"], unfollowed := true, recurses := true, plainKeys := false, apart := false }
def VfsNobodySaid : Prop := vfsNobodyRow.holds Try.pinned (OpenSpec.ofChange vfsNobodySpec)

/-- ITS FALSE NEIGHBOUR: 'it returns false'. Refute it at one input. -/
def vfsNobodyWrong : ChangeSpec := { name := "vfsNobody", fn := fun _ => fun
  | [d1, d2, d3, d4] => { results := [.lit (.bool false)], args := [d1, d2, d3, d4] }
  | _ => none }
def VfsNobodyWrongFalsely : Prop := vfsNobodyRow.holds Try.pinned (OpenSpec.ofChange vfsNobodyWrong)

/- THE SECOND FORM. 'bulk': how many values and letters a reading holds, each counted each time it is reached (what is shared counts as often as it is met; a slice's spare places count too). A statement '..UptoSaid' is the law's where the arguments, and the package variables that the reading takes, are together of bulk at most 1048576: NARROWER than '..Said'. Prove '..Said' where nothing that the law and all that it calls make is longer than what came in: it says more and counts as full. Else prove '..UptoSaid'. A law counts once. -/
mutual
def uptoBulk {H : Type} : DataW H → Nat
  | .lit (.string bytes) => bytes.length + 1
  | .lit _ => 1
  | .nil => 1
  | .ptr d => uptoBulk d + 1
  | .slice elems spare => uptoBulkAll elems + uptoBulkAll spare + 1
  | .agg parts => uptoBulkAll parts + 1
  | .iface _ d => uptoBulk d + 1
  | .map entries => uptoBulkEntries entries + 1
  | .held _ => 1
def uptoBulkAll {H : Type} : List (DataW H) → Nat
  | [] => 0
  | d :: r => uptoBulk d + uptoBulkAll r
def uptoBulkEntries {H : Type} : List (Lit × DataW H) → Nat
  | [] => 0
  | x :: r => uptoBulkEntry x + uptoBulkEntries r
def uptoBulkEntry {H : Type} : Lit × DataW H → Nat
  | (.string bytes, d) => bytes.length + uptoBulk d + 1
  | (_, d) => uptoBulk d + 1
 end
def uptoSmall : (H : Type) → List (DataW H) → Bool := fun _ ds => decide (uptoBulkAll ds ≤ 1048576)
def OpenSpec.upto (s : _root_.Go.ChangeSpec) : _root_.Go.OpenSpec := { _root_.Go.OpenSpec.ofChange s with cond := some uptoSmall }

/-- 'atriumlaw01.VfsSwitch', WHERE WHAT IT READS IS OF BULK AT MOST 1048576: true; the input reads as it did. -/
def vfsSwitchUptoRow : OpenClaim := { program := "ytamhecmopnekjaa", sum := "26eef9aab4417f0dc212b09faacf2aec512504a9b462a9fd549b653ae3fbd64e", func := "atrium/atriumlaw01.VfsSwitch", spec := "vfsSwitch", inPlace := ["maps.clone"], unfollowed := true, recurses := true, plainKeys := false, apart := false, narrowed := true }
def VfsSwitchUptoSaid : Prop := vfsSwitchUptoRow.holds Try.pinned (OpenSpec.upto vfsSwitchSpec)

/-- 'atriumlaw01.VfsSynced', WHERE WHAT IT READS IS OF BULK AT MOST 1048576: true; the input reads as it did. -/
def vfsSyncedUptoRow : OpenClaim := { program := "ytamhecmopnekjaa", sum := "26eef9aab4417f0dc212b09faacf2aec512504a9b462a9fd549b653ae3fbd64e", func := "atrium/atriumlaw01.VfsSynced", spec := "vfsSynced", inPlace := ["maps.clone"], unfollowed := true, recurses := true, plainKeys := false, apart := false, narrowed := true }
def VfsSyncedUptoSaid : Prop := vfsSyncedUptoRow.holds Try.pinned (OpenSpec.upto vfsSyncedSpec)

/-- 'atriumlaw01.VfsTwice', WHERE WHAT IT READS IS OF BULK AT MOST 1048576: true; the input reads as it did. -/
def vfsTwiceUptoRow : OpenClaim := { program := "ytamhecmopnekjaa", sum := "26eef9aab4417f0dc212b09faacf2aec512504a9b462a9fd549b653ae3fbd64e", func := "atrium/atriumlaw01.VfsTwice", spec := "vfsTwice", inPlace := ["maps.clone"], unfollowed := true, recurses := true, plainKeys := false, apart := false, narrowed := true }
def VfsTwiceUptoSaid : Prop := vfsTwiceUptoRow.holds Try.pinned (OpenSpec.upto vfsTwiceSpec)

/-- 'atriumlaw01.VfsFull', WHERE WHAT IT READS IS OF BULK AT MOST 1048576: true; the input reads as it did. -/
def vfsFullUptoRow : OpenClaim := { program := "ytamhecmopnekjaa", sum := "26eef9aab4417f0dc212b09faacf2aec512504a9b462a9fd549b653ae3fbd64e", func := "atrium/atriumlaw01.VfsFull", spec := "vfsFull", inPlace := ["maps.clone"], unfollowed := true, recurses := true, plainKeys := false, apart := false, narrowed := true }
def VfsFullUptoSaid : Prop := vfsFullUptoRow.holds Try.pinned (OpenSpec.upto vfsFullSpec)

/-- 'atriumlaw01.VfsAll', WHERE WHAT IT READS IS OF BULK AT MOST 1048576: true; the input reads as it did. -/
def vfsAllUptoRow : OpenClaim := { program := "ytamhecmopnekjaa", sum := "26eef9aab4417f0dc212b09faacf2aec512504a9b462a9fd549b653ae3fbd64e", func := "atrium/atriumlaw01.VfsAll", spec := "vfsAll", inPlace := ["maps.clone"], unfollowed := true, recurses := true, plainKeys := false, apart := false, narrowed := true }
def VfsAllUptoSaid : Prop := vfsAllUptoRow.holds Try.pinned (OpenSpec.upto vfsAllSpec)

/-- 'atriumlaw01.VfsNobody', WHERE WHAT IT READS IS OF BULK AT MOST 1048576: true; the input reads as it did. -/
def vfsNobodyUptoRow : OpenClaim := { program := "ytamhecmopnekjaa", sum := "26eef9aab4417f0dc212b09faacf2aec512504a9b462a9fd549b653ae3fbd64e", func := "atrium/atriumlaw01.VfsNobody", spec := "vfsNobody", inPlace := ["maps.clone"], unfollowed := true, recurses := true, plainKeys := false, apart := false, narrowed := true }
def VfsNobodyUptoSaid : Prop := vfsNobodyUptoRow.holds Try.pinned (OpenSpec.upto vfsNobodySpec)

end Rows
end Go.Proofs.Ytamhecmopnekjaa
