/-
  NARROWER THAN 'FOR EVERY INPUT', by the rows' own cells (each row's printed sentence says how): HttpComes: laid · HttpParses: laid · HttpFields: laid · HttpPrints: laid · HttpPipes: laid.
  DERIVED. THE GIVEN ROWS OF THIS SEAT. 5 by the template 'for every input the law returns true; each argument reads behind the call as it read before'; 0 by the template 'total and deterministic' (their statements: YtckbcnmcnhahhaaDoorTotals.lean).
  GIVEN WITH THE SEED: the statements are not yours to turn. If you find one false, say at which input.
  Laid BY PROGRAM, IN A SANDBOX (cutbox-rows.mjs): the forced cells as the released guide's own fill.sh prints them over the translation b9635356e488bd55… (all of the seat's roots in one cut). By AI agents, Wed Nov 11 2026. No macro, syntax, notation, axiom, sorry.
-/
import Derived.Test.YtckbcnmcnhahhaaDoorChecked
import GoSem.PinnedTables
import GoSem.Claim
import GoSem.ClaimJoined
import GoSem.ClaimMapViews
import Derived.JoinedTies
import Derived.KernelRfl
namespace Go.Proofs.YtckbcnmcnhahhaaDoor
/- THE CELL 'sum', in the pinned program and in every row, IS THE sha256 OF THE DUMP (.gsa) THAT YtckbcnmcnhahhaaDoorProg.lean LOADS. Nothing in Lean hashes anything: it is a label: what it is worth is what the hold of that sum in a sandbox is worth. -/
noncomputable def Tryd.pinned : Pinned := { name := "ytckbcnmcnhahhaadoor", sum := "b9635356e488bd55a9b302e2375beccad9c3886fed7a1b1970e13634de3bfda3", checked := Tryd.checked }
namespace Rows
def none {H : Type} : Left H := { results := [], args := [] }

/- WHAT THE LISTED PACKAGE-LEVEL VARIABLES READ AS WHEN THE CALL BEGINS. Each datum BY PROGRAM (the guide's laid-datum.mjs) off the statement by which the dump's own 'gosem.cut.vars' lays the variable. In a bare row this is a premise. The card (YtckbcnmcnhahhaaDoorCards.lean) ties it to the program's text. -/
def laid_unicode_utf8_acceptRanges {H : Type} : DataW H := .agg [.agg [.lit (.int .u8 128), .lit (.int .u8 191)], .agg [.lit (.int .u8 160), .lit (.int .u8 191)], .agg [.lit (.int .u8 128), .lit (.int .u8 159)], .agg [.lit (.int .u8 144), .lit (.int .u8 191)], .agg [.lit (.int .u8 128), .lit (.int .u8 143)], .agg [.lit (.int .u8 0), .lit (.int .u8 0)], .agg [.lit (.int .u8 0), .lit (.int .u8 0)], .agg [.lit (.int .u8 0), .lit (.int .u8 0)], .agg [.lit (.int .u8 0), .lit (.int .u8 0)], .agg [.lit (.int .u8 0), .lit (.int .u8 0)], .agg [.lit (.int .u8 0), .lit (.int .u8 0)], .agg [.lit (.int .u8 0), .lit (.int .u8 0)], .agg [.lit (.int .u8 0), .lit (.int .u8 0)], .agg [.lit (.int .u8 0), .lit (.int .u8 0)], .agg [.lit (.int .u8 0), .lit (.int .u8 0)], .agg [.lit (.int .u8 0), .lit (.int .u8 0)]]
/-- One of Go's own tables, pinned by name: the form's constant. -/
def laid_unicode_utf8_first : DataW Unit := Go.Pinned.utf8First

/-- 'atriumlaw17.HttpComes': WHATEVER THE INPUT: true; the input reads as it did. -/
def httpComesSpec : ChangeSpec := { name := "httpComes", fn := fun _ => fun
  | [d1, d2, d3] => { results := [.lit (.bool true)], args := [d1, d2, d3] }
  | _ => none }
def httpComesRow : OpenClaim := { program := "ytckbcnmcnhahhaadoor", sum := "b9635356e488bd55a9b302e2375beccad9c3886fed7a1b1970e13634de3bfda3", func := "atrium/atriumlaw17.HttpComes", spec := "httpComes", inPlace := ["internal/bytealg.IndexByteString", "internal/bytealg.IndexString", "internal/bytealg.CountString"], named := ["internal/bytealg.MaxLen", "unicode/utf8.first", "unicode/utf8.acceptRanges"], apart := false, laid := [("unicode/utf8.acceptRanges", laid_unicode_utf8_acceptRanges), ("unicode/utf8.first", laid_unicode_utf8_first)] }
def HttpComesSaid : Prop := httpComesRow.holds Tryd.pinned (OpenSpec.ofChange httpComesSpec)

/-- ITS FALSE NEIGHBOUR: 'it returns false'. Refute it at one input. -/
def httpComesWrong : ChangeSpec := { name := "httpComes", fn := fun _ => fun
  | [d1, d2, d3] => { results := [.lit (.bool false)], args := [d1, d2, d3] }
  | _ => none }
def HttpComesWrongFalsely : Prop := httpComesRow.holds Tryd.pinned (OpenSpec.ofChange httpComesWrong)

/-- 'atriumlaw17.HttpParses': WHATEVER THE INPUT: true; the input reads as it did. -/
def httpParsesSpec : ChangeSpec := { name := "httpParses", fn := fun _ => fun
  | [d1, d2] => { results := [.lit (.bool true)], args := [d1, d2] }
  | _ => none }
def httpParsesRow : OpenClaim := { program := "ytckbcnmcnhahhaadoor", sum := "b9635356e488bd55a9b302e2375beccad9c3886fed7a1b1970e13634de3bfda3", func := "atrium/atriumlaw17.HttpParses", spec := "httpParses", inPlace := ["internal/bytealg.IndexByteString", "internal/bytealg.IndexString", "internal/bytealg.CountString"], named := ["internal/bytealg.MaxLen", "unicode/utf8.first", "unicode/utf8.acceptRanges"], apart := false, laid := [("unicode/utf8.acceptRanges", laid_unicode_utf8_acceptRanges), ("unicode/utf8.first", laid_unicode_utf8_first)] }
def HttpParsesSaid : Prop := httpParsesRow.holds Tryd.pinned (OpenSpec.ofChange httpParsesSpec)

/-- ITS FALSE NEIGHBOUR: 'it returns false'. Refute it at one input. -/
def httpParsesWrong : ChangeSpec := { name := "httpParses", fn := fun _ => fun
  | [d1, d2] => { results := [.lit (.bool false)], args := [d1, d2] }
  | _ => none }
def HttpParsesWrongFalsely : Prop := httpParsesRow.holds Tryd.pinned (OpenSpec.ofChange httpParsesWrong)

/-- 'atriumlaw17.HttpFields': WHATEVER THE INPUT: true; the input reads as it did. -/
def httpFieldsSpec : ChangeSpec := { name := "httpFields", fn := fun _ => fun
  | [d1, d2] => { results := [.lit (.bool true)], args := [d1, d2] }
  | _ => none }
def httpFieldsRow : OpenClaim := { program := "ytckbcnmcnhahhaadoor", sum := "b9635356e488bd55a9b302e2375beccad9c3886fed7a1b1970e13634de3bfda3", func := "atrium/atriumlaw17.HttpFields", spec := "httpFields", inPlace := ["internal/bytealg.IndexByteString", "internal/bytealg.IndexString", "internal/bytealg.CountString"], named := ["internal/bytealg.MaxLen", "unicode/utf8.first", "unicode/utf8.acceptRanges"], apart := false, laid := [("unicode/utf8.acceptRanges", laid_unicode_utf8_acceptRanges), ("unicode/utf8.first", laid_unicode_utf8_first)] }
def HttpFieldsSaid : Prop := httpFieldsRow.holds Tryd.pinned (OpenSpec.ofChange httpFieldsSpec)

/-- ITS FALSE NEIGHBOUR: 'it returns false'. Refute it at one input. -/
def httpFieldsWrong : ChangeSpec := { name := "httpFields", fn := fun _ => fun
  | [d1, d2] => { results := [.lit (.bool false)], args := [d1, d2] }
  | _ => none }
def HttpFieldsWrongFalsely : Prop := httpFieldsRow.holds Tryd.pinned (OpenSpec.ofChange httpFieldsWrong)

/-- 'atriumlaw17.HttpPrints': WHATEVER THE INPUT: true; the input reads as it did. -/
def httpPrintsSpec : ChangeSpec := { name := "httpPrints", fn := fun _ => fun
  | [d1, d2] => { results := [.lit (.bool true)], args := [d1, d2] }
  | _ => none }
def httpPrintsRow : OpenClaim := { program := "ytckbcnmcnhahhaadoor", sum := "b9635356e488bd55a9b302e2375beccad9c3886fed7a1b1970e13634de3bfda3", func := "atrium/atriumlaw17.HttpPrints", spec := "httpPrints", inPlace := ["internal/bytealg.IndexByteString", "internal/bytealg.IndexString", "internal/abi.NoEscape", "internal/bytealg.CountString"], named := ["unicode/utf8.first", "unicode/utf8.acceptRanges", "internal/bytealg.MaxLen"], apart := false, laid := [("unicode/utf8.acceptRanges", laid_unicode_utf8_acceptRanges), ("unicode/utf8.first", laid_unicode_utf8_first)] }
def HttpPrintsSaid : Prop := httpPrintsRow.holds Tryd.pinned (OpenSpec.ofChange httpPrintsSpec)

/-- ITS FALSE NEIGHBOUR: 'it returns false'. Refute it at one input. -/
def httpPrintsWrong : ChangeSpec := { name := "httpPrints", fn := fun _ => fun
  | [d1, d2] => { results := [.lit (.bool false)], args := [d1, d2] }
  | _ => none }
def HttpPrintsWrongFalsely : Prop := httpPrintsRow.holds Tryd.pinned (OpenSpec.ofChange httpPrintsWrong)

/-- 'atriumlaw17.HttpPipes': WHATEVER THE INPUT: true; the input reads as it did. -/
def httpPipesSpec : ChangeSpec := { name := "httpPipes", fn := fun _ => fun
  | [d1, d2] => { results := [.lit (.bool true)], args := [d1, d2] }
  | _ => none }
def httpPipesRow : OpenClaim := { program := "ytckbcnmcnhahhaadoor", sum := "b9635356e488bd55a9b302e2375beccad9c3886fed7a1b1970e13634de3bfda3", func := "atrium/atriumlaw17.HttpPipes", spec := "httpPipes", inPlace := ["internal/bytealg.IndexByteString", "internal/bytealg.IndexString", "internal/bytealg.CountString", "internal/abi.NoEscape"], named := ["internal/bytealg.MaxLen", "unicode/utf8.first", "unicode/utf8.acceptRanges"], apart := false, laid := [("unicode/utf8.acceptRanges", laid_unicode_utf8_acceptRanges), ("unicode/utf8.first", laid_unicode_utf8_first)] }
def HttpPipesSaid : Prop := httpPipesRow.holds Tryd.pinned (OpenSpec.ofChange httpPipesSpec)

/-- ITS FALSE NEIGHBOUR: 'it returns false'. Refute it at one input. -/
def httpPipesWrong : ChangeSpec := { name := "httpPipes", fn := fun _ => fun
  | [d1, d2] => { results := [.lit (.bool false)], args := [d1, d2] }
  | _ => none }
def HttpPipesWrongFalsely : Prop := httpPipesRow.holds Tryd.pinned (OpenSpec.ofChange httpPipesWrong)

/- THE SECOND FORM. 'bulk': how many values and letters a reading holds, each counted each time it is reached (what is shared counts as often as it is met; a slice's spare places count too). A statement '..UptoSaid' is the law's where the arguments, and the package variables that the reading takes, are together of bulk at most 1048576: NARROWER than '..Said'. Prove '..Said' where nothing that the law and all that it calls make is longer than what came in: it says more and counts as full. Else prove '..UptoSaid'. A law counts once. -/
mutual
def uptoBulk {H : Type} : DataW H → Nat
  | .lit (.string bytes) => bytes.length + 1
  | .lit _ => 1
  | .nil => 1
  | .ptr d => uptoBulk d + 1
  | .slice elems spare => uptoBulkAll elems + uptoBulkAll spare + 1
  | .agg parts => uptoBulkAll parts + 1
  | .iface _ d => uptoBulk d + 1
  | .map entries => uptoBulkEntries entries + 1
  | .held _ => 1
def uptoBulkAll {H : Type} : List (DataW H) → Nat
  | [] => 0
  | d :: r => uptoBulk d + uptoBulkAll r
def uptoBulkEntries {H : Type} : List (Lit × DataW H) → Nat
  | [] => 0
  | x :: r => uptoBulkEntry x + uptoBulkEntries r
def uptoBulkEntry {H : Type} : Lit × DataW H → Nat
  | (.string bytes, d) => bytes.length + uptoBulk d + 1
  | (_, d) => uptoBulk d + 1
 end
def uptoSmall : (H : Type) → List (DataW H) → Bool := fun _ ds => decide (uptoBulkAll ds ≤ 1048576)
def OpenSpec.upto (s : _root_.Go.ChangeSpec) : _root_.Go.OpenSpec := { _root_.Go.OpenSpec.ofChange s with cond := some uptoSmall }

/-- 'atriumlaw17.HttpComes', WHERE WHAT IT READS IS OF BULK AT MOST 1048576: true; the input reads as it did. -/
def httpComesUptoRow : OpenClaim := { program := "ytckbcnmcnhahhaadoor", sum := "b9635356e488bd55a9b302e2375beccad9c3886fed7a1b1970e13634de3bfda3", func := "atrium/atriumlaw17.HttpComes", spec := "httpComes", inPlace := ["internal/bytealg.IndexByteString", "internal/bytealg.IndexString", "internal/bytealg.CountString"], named := ["internal/bytealg.MaxLen", "unicode/utf8.first", "unicode/utf8.acceptRanges"], apart := false, laid := [("unicode/utf8.acceptRanges", laid_unicode_utf8_acceptRanges), ("unicode/utf8.first", laid_unicode_utf8_first)], narrowed := true }
def HttpComesUptoSaid : Prop := httpComesUptoRow.holds Tryd.pinned (OpenSpec.upto httpComesSpec)

/-- 'atriumlaw17.HttpParses', WHERE WHAT IT READS IS OF BULK AT MOST 1048576: true; the input reads as it did. -/
def httpParsesUptoRow : OpenClaim := { program := "ytckbcnmcnhahhaadoor", sum := "b9635356e488bd55a9b302e2375beccad9c3886fed7a1b1970e13634de3bfda3", func := "atrium/atriumlaw17.HttpParses", spec := "httpParses", inPlace := ["internal/bytealg.IndexByteString", "internal/bytealg.IndexString", "internal/bytealg.CountString"], named := ["internal/bytealg.MaxLen", "unicode/utf8.first", "unicode/utf8.acceptRanges"], apart := false, laid := [("unicode/utf8.acceptRanges", laid_unicode_utf8_acceptRanges), ("unicode/utf8.first", laid_unicode_utf8_first)], narrowed := true }
def HttpParsesUptoSaid : Prop := httpParsesUptoRow.holds Tryd.pinned (OpenSpec.upto httpParsesSpec)

/-- 'atriumlaw17.HttpFields', WHERE WHAT IT READS IS OF BULK AT MOST 1048576: true; the input reads as it did. -/
def httpFieldsUptoRow : OpenClaim := { program := "ytckbcnmcnhahhaadoor", sum := "b9635356e488bd55a9b302e2375beccad9c3886fed7a1b1970e13634de3bfda3", func := "atrium/atriumlaw17.HttpFields", spec := "httpFields", inPlace := ["internal/bytealg.IndexByteString", "internal/bytealg.IndexString", "internal/bytealg.CountString"], named := ["internal/bytealg.MaxLen", "unicode/utf8.first", "unicode/utf8.acceptRanges"], apart := false, laid := [("unicode/utf8.acceptRanges", laid_unicode_utf8_acceptRanges), ("unicode/utf8.first", laid_unicode_utf8_first)], narrowed := true }
def HttpFieldsUptoSaid : Prop := httpFieldsUptoRow.holds Tryd.pinned (OpenSpec.upto httpFieldsSpec)

/-- 'atriumlaw17.HttpPrints', WHERE WHAT IT READS IS OF BULK AT MOST 1048576: true; the input reads as it did. -/
def httpPrintsUptoRow : OpenClaim := { program := "ytckbcnmcnhahhaadoor", sum := "b9635356e488bd55a9b302e2375beccad9c3886fed7a1b1970e13634de3bfda3", func := "atrium/atriumlaw17.HttpPrints", spec := "httpPrints", inPlace := ["internal/bytealg.IndexByteString", "internal/bytealg.IndexString", "internal/abi.NoEscape", "internal/bytealg.CountString"], named := ["unicode/utf8.first", "unicode/utf8.acceptRanges", "internal/bytealg.MaxLen"], apart := false, laid := [("unicode/utf8.acceptRanges", laid_unicode_utf8_acceptRanges), ("unicode/utf8.first", laid_unicode_utf8_first)], narrowed := true }
def HttpPrintsUptoSaid : Prop := httpPrintsUptoRow.holds Tryd.pinned (OpenSpec.upto httpPrintsSpec)

/-- 'atriumlaw17.HttpPipes', WHERE WHAT IT READS IS OF BULK AT MOST 1048576: true; the input reads as it did. -/
def httpPipesUptoRow : OpenClaim := { program := "ytckbcnmcnhahhaadoor", sum := "b9635356e488bd55a9b302e2375beccad9c3886fed7a1b1970e13634de3bfda3", func := "atrium/atriumlaw17.HttpPipes", spec := "httpPipes", inPlace := ["internal/bytealg.IndexByteString", "internal/bytealg.IndexString", "internal/bytealg.CountString", "internal/abi.NoEscape"], named := ["internal/bytealg.MaxLen", "unicode/utf8.first", "unicode/utf8.acceptRanges"], apart := false, laid := [("unicode/utf8.acceptRanges", laid_unicode_utf8_acceptRanges), ("unicode/utf8.first", laid_unicode_utf8_first)], narrowed := true }
def HttpPipesUptoSaid : Prop := httpPipesUptoRow.holds Tryd.pinned (OpenSpec.upto httpPipesSpec)

end Rows
end Go.Proofs.YtckbcnmcnhahhaaDoor
