/-
  No cell of these rows narrows 'for every input' (looked for: loops, veiled, ifaces, maps, wideKeys, modest, calm, conditions, laid).
  DERIVED. THE GIVEN ROWS OF THIS SEAT. 5 by the template 'for every input the law returns true; each argument reads behind the call as it read before'; 0 by the template 'total and deterministic' (their statements: YtehnpmkfgdmmmaaTotals.lean).
  GIVEN WITH THE SEED: the statements are not yours to turn. If you find one false, say at which input.
  Laid BY PROGRAM, IN A SANDBOX (cutbox-rows.mjs): the forced cells as the released guide's own fill.sh prints them over the translation f3a2942543973175… (all of the seat's roots in one cut). By AI agents, Wed Nov 11 2026. No macro, syntax, notation, axiom, sorry.
-/
import Derived.Test.YtehnpmkfgdmmmaaChecked
import GoSem.Claim
import GoSem.ClaimJoined
import GoSem.ClaimMapViews
import Derived.JoinedTies
import Derived.KernelRfl
namespace Go.Proofs.Ytehnpmkfgdmmmaa
/- THE CELL 'sum', in the pinned program and in every row, IS THE sha256 OF THE DUMP (.gsa) THAT YtehnpmkfgdmmmaaProg.lean LOADS. Nothing in Lean hashes anything: it is a label: what it is worth is what the hold of that sum in a sandbox is worth. -/
noncomputable def Try.pinned : Pinned := { name := "ytehnpmkfgdmmmaa", sum := "f3a2942543973175f9c51f1f092967059d3bfba827b876e686ba92eb1281160c", checked := Try.checked }
namespace Rows
def none {H : Type} : Left H := { results := [], args := [] }

/-- 'atriumlaw21.CredMints': WHATEVER THE INPUT: true; the input reads as it did. -/
def credMintsSpec : ChangeSpec := { name := "credMints", fn := fun _ => fun
  | [d1, d2] => { results := [.lit (.bool true)], args := [d1, d2] }
  | _ => none }
def credMintsRow : OpenClaim := { program := "ytehnpmkfgdmmmaa", sum := "f3a2942543973175f9c51f1f092967059d3bfba827b876e686ba92eb1281160c", func := "atrium/atriumlaw21.CredMints", spec := "credMints", inPlace := ["internal/abi.NoEscape", "internal/bytealg.MakeNoZero", "internal/bytealg.IndexByteString", "internal/bytealg.IndexString"], named := ["internal/bytealg.MaxLen"], apart := false }
def CredMintsSaid : Prop := credMintsRow.holds Try.pinned (OpenSpec.ofChange credMintsSpec)

/-- ITS FALSE NEIGHBOUR: 'it returns false'. Refute it at one input. -/
def credMintsWrong : ChangeSpec := { name := "credMints", fn := fun _ => fun
  | [d1, d2] => { results := [.lit (.bool false)], args := [d1, d2] }
  | _ => none }
def CredMintsWrongFalsely : Prop := credMintsRow.holds Try.pinned (OpenSpec.ofChange credMintsWrong)

/-- 'atriumlaw21.CredVerifies': WHATEVER THE INPUT: true; the input reads as it did. -/
def credVerifiesSpec : ChangeSpec := { name := "credVerifies", fn := fun _ => fun
  | [d1, d2, d3] => { results := [.lit (.bool true)], args := [d1, d2, d3] }
  | _ => none }
def credVerifiesRow : OpenClaim := { program := "ytehnpmkfgdmmmaa", sum := "f3a2942543973175f9c51f1f092967059d3bfba827b876e686ba92eb1281160c", func := "atrium/atriumlaw21.CredVerifies", spec := "credVerifies", inPlace := ["internal/abi.NoEscape", "internal/bytealg.MakeNoZero", "internal/bytealg.IndexByteString", "internal/bytealg.IndexString"], named := ["internal/bytealg.MaxLen"], apart := false }
def CredVerifiesSaid : Prop := credVerifiesRow.holds Try.pinned (OpenSpec.ofChange credVerifiesSpec)

/-- ITS FALSE NEIGHBOUR: 'it returns false'. Refute it at one input. -/
def credVerifiesWrong : ChangeSpec := { name := "credVerifies", fn := fun _ => fun
  | [d1, d2, d3] => { results := [.lit (.bool false)], args := [d1, d2, d3] }
  | _ => none }
def CredVerifiesWrongFalsely : Prop := credVerifiesRow.holds Try.pinned (OpenSpec.ofChange credVerifiesWrong)

/-- 'atriumlaw21.CredOwn': WHATEVER THE INPUT: true; the input reads as it did. -/
def credOwnSpec : ChangeSpec := { name := "credOwn", fn := fun _ => fun
  | [d1, d2, d3, d4] => { results := [.lit (.bool true)], args := [d1, d2, d3, d4] }
  | _ => none }
def credOwnRow : OpenClaim := { program := "ytehnpmkfgdmmmaa", sum := "f3a2942543973175f9c51f1f092967059d3bfba827b876e686ba92eb1281160c", func := "atrium/atriumlaw21.CredOwn", spec := "credOwn", inPlace := ["internal/abi.NoEscape", "internal/bytealg.MakeNoZero", "internal/bytealg.IndexByteString", "internal/bytealg.IndexString"], named := ["internal/bytealg.MaxLen"], apart := false }
def CredOwnSaid : Prop := credOwnRow.holds Try.pinned (OpenSpec.ofChange credOwnSpec)

/-- ITS FALSE NEIGHBOUR: 'it returns false'. Refute it at one input. -/
def credOwnWrong : ChangeSpec := { name := "credOwn", fn := fun _ => fun
  | [d1, d2, d3, d4] => { results := [.lit (.bool false)], args := [d1, d2, d3, d4] }
  | _ => none }
def CredOwnWrongFalsely : Prop := credOwnRow.holds Try.pinned (OpenSpec.ofChange credOwnWrong)

/-- 'atriumlaw21.CredApart': WHATEVER THE INPUT: true; the input reads as it did. -/
def credApartSpec : ChangeSpec := { name := "credApart", fn := fun _ => fun
  | [d1, d2] => { results := [.lit (.bool true)], args := [d1, d2] }
  | _ => none }
def credApartRow : OpenClaim := { program := "ytehnpmkfgdmmmaa", sum := "f3a2942543973175f9c51f1f092967059d3bfba827b876e686ba92eb1281160c", func := "atrium/atriumlaw21.CredApart", spec := "credApart", inPlace := ["internal/abi.NoEscape", "internal/bytealg.MakeNoZero", "internal/bytealg.IndexByteString", "internal/bytealg.IndexString"], named := ["internal/bytealg.MaxLen"], apart := false }
def CredApartSaid : Prop := credApartRow.holds Try.pinned (OpenSpec.ofChange credApartSpec)

/-- ITS FALSE NEIGHBOUR: 'it returns false'. Refute it at one input. -/
def credApartWrong : ChangeSpec := { name := "credApart", fn := fun _ => fun
  | [d1, d2] => { results := [.lit (.bool false)], args := [d1, d2] }
  | _ => none }
def CredApartWrongFalsely : Prop := credApartRow.holds Try.pinned (OpenSpec.ofChange credApartWrong)

/-- 'atriumlaw21.CredTokens': WHATEVER THE INPUT: true; the input reads as it did. -/
def credTokensSpec : ChangeSpec := { name := "credTokens", fn := fun _ => fun
  | [d1, d2, d3, d4, d5] => { results := [.lit (.bool true)], args := [d1, d2, d3, d4, d5] }
  | _ => none }
def credTokensRow : OpenClaim := { program := "ytehnpmkfgdmmmaa", sum := "f3a2942543973175f9c51f1f092967059d3bfba827b876e686ba92eb1281160c", func := "atrium/atriumlaw21.CredTokens", spec := "credTokens", inPlace := ["internal/abi.NoEscape", "internal/bytealg.IndexByteString", "internal/bytealg.MakeNoZero", "internal/bytealg.IndexString"], named := ["internal/bytealg.MaxLen"], apart := false }
def CredTokensSaid : Prop := credTokensRow.holds Try.pinned (OpenSpec.ofChange credTokensSpec)

/-- ITS FALSE NEIGHBOUR: 'it returns false'. Refute it at one input. -/
def credTokensWrong : ChangeSpec := { name := "credTokens", fn := fun _ => fun
  | [d1, d2, d3, d4, d5] => { results := [.lit (.bool false)], args := [d1, d2, d3, d4, d5] }
  | _ => none }
def CredTokensWrongFalsely : Prop := credTokensRow.holds Try.pinned (OpenSpec.ofChange credTokensWrong)

/- THE SECOND FORM. 'bulk': how many values and letters a reading holds, each counted each time it is reached (what is shared counts as often as it is met; a slice's spare places count too). A statement '..UptoSaid' is the law's where the arguments, and the package variables that the reading takes, are together of bulk at most 1048576: NARROWER than '..Said'. Prove '..Said' where nothing that the law and all that it calls make is longer than what came in: it says more and counts as full. Else prove '..UptoSaid'. A law counts once. -/
mutual
def uptoBulk {H : Type} : DataW H → Nat
  | .lit (.string bytes) => bytes.length + 1
  | .lit _ => 1
  | .nil => 1
  | .ptr d => uptoBulk d + 1
  | .slice elems spare => uptoBulkAll elems + uptoBulkAll spare + 1
  | .agg parts => uptoBulkAll parts + 1
  | .iface _ d => uptoBulk d + 1
  | .map entries => uptoBulkEntries entries + 1
  | .held _ => 1
def uptoBulkAll {H : Type} : List (DataW H) → Nat
  | [] => 0
  | d :: r => uptoBulk d + uptoBulkAll r
def uptoBulkEntries {H : Type} : List (Lit × DataW H) → Nat
  | [] => 0
  | x :: r => uptoBulkEntry x + uptoBulkEntries r
def uptoBulkEntry {H : Type} : Lit × DataW H → Nat
  | (.string bytes, d) => bytes.length + uptoBulk d + 1
  | (_, d) => uptoBulk d + 1
 end
def uptoSmall : (H : Type) → List (DataW H) → Bool := fun _ ds => decide (uptoBulkAll ds ≤ 1048576)
def OpenSpec.upto (s : _root_.Go.ChangeSpec) : _root_.Go.OpenSpec := { _root_.Go.OpenSpec.ofChange s with cond := some uptoSmall }

/-- 'atriumlaw21.CredMints', WHERE WHAT IT READS IS OF BULK AT MOST 1048576: true; the input reads as it did. -/
def credMintsUptoRow : OpenClaim := { program := "ytehnpmkfgdmmmaa", sum := "f3a2942543973175f9c51f1f092967059d3bfba827b876e686ba92eb1281160c", func := "atrium/atriumlaw21.CredMints", spec := "credMints", inPlace := ["internal/abi.NoEscape", "internal/bytealg.MakeNoZero", "internal/bytealg.IndexByteString", "internal/bytealg.IndexString"], named := ["internal/bytealg.MaxLen"], apart := false, narrowed := true }
def CredMintsUptoSaid : Prop := credMintsUptoRow.holds Try.pinned (OpenSpec.upto credMintsSpec)

/-- 'atriumlaw21.CredVerifies', WHERE WHAT IT READS IS OF BULK AT MOST 1048576: true; the input reads as it did. -/
def credVerifiesUptoRow : OpenClaim := { program := "ytehnpmkfgdmmmaa", sum := "f3a2942543973175f9c51f1f092967059d3bfba827b876e686ba92eb1281160c", func := "atrium/atriumlaw21.CredVerifies", spec := "credVerifies", inPlace := ["internal/abi.NoEscape", "internal/bytealg.MakeNoZero", "internal/bytealg.IndexByteString", "internal/bytealg.IndexString"], named := ["internal/bytealg.MaxLen"], apart := false, narrowed := true }
def CredVerifiesUptoSaid : Prop := credVerifiesUptoRow.holds Try.pinned (OpenSpec.upto credVerifiesSpec)

/-- 'atriumlaw21.CredOwn', WHERE WHAT IT READS IS OF BULK AT MOST 1048576: true; the input reads as it did. -/
def credOwnUptoRow : OpenClaim := { program := "ytehnpmkfgdmmmaa", sum := "f3a2942543973175f9c51f1f092967059d3bfba827b876e686ba92eb1281160c", func := "atrium/atriumlaw21.CredOwn", spec := "credOwn", inPlace := ["internal/abi.NoEscape", "internal/bytealg.MakeNoZero", "internal/bytealg.IndexByteString", "internal/bytealg.IndexString"], named := ["internal/bytealg.MaxLen"], apart := false, narrowed := true }
def CredOwnUptoSaid : Prop := credOwnUptoRow.holds Try.pinned (OpenSpec.upto credOwnSpec)

/-- 'atriumlaw21.CredApart', WHERE WHAT IT READS IS OF BULK AT MOST 1048576: true; the input reads as it did. -/
def credApartUptoRow : OpenClaim := { program := "ytehnpmkfgdmmmaa", sum := "f3a2942543973175f9c51f1f092967059d3bfba827b876e686ba92eb1281160c", func := "atrium/atriumlaw21.CredApart", spec := "credApart", inPlace := ["internal/abi.NoEscape", "internal/bytealg.MakeNoZero", "internal/bytealg.IndexByteString", "internal/bytealg.IndexString"], named := ["internal/bytealg.MaxLen"], apart := false, narrowed := true }
def CredApartUptoSaid : Prop := credApartUptoRow.holds Try.pinned (OpenSpec.upto credApartSpec)

/-- 'atriumlaw21.CredTokens', WHERE WHAT IT READS IS OF BULK AT MOST 1048576: true; the input reads as it did. -/
def credTokensUptoRow : OpenClaim := { program := "ytehnpmkfgdmmmaa", sum := "f3a2942543973175f9c51f1f092967059d3bfba827b876e686ba92eb1281160c", func := "atrium/atriumlaw21.CredTokens", spec := "credTokens", inPlace := ["internal/abi.NoEscape", "internal/bytealg.IndexByteString", "internal/bytealg.MakeNoZero", "internal/bytealg.IndexString"], named := ["internal/bytealg.MaxLen"], apart := false, narrowed := true }
def CredTokensUptoSaid : Prop := credTokensUptoRow.holds Try.pinned (OpenSpec.upto credTokensSpec)

end Rows
end Go.Proofs.Ytehnpmkfgdmmmaa
