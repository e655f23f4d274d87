/-
  DERIVED. GIVEN WITH THE SEED: THE CARDS: each row of YtckbcnmcnhahhaaDoorRows.lean that lists a variable, with what it lists TIED to the program's text (the seventh form; the later family's looks); each row that meets fmt, with fmt's text TOLD by the authors' own Lean function (tested against real Go, not proved from fmt's source: count such statements apart). THE CARD IS WHAT COUNTS. Prove the row's statement (the work); the ties are given (YtckbcnmcnhahhaaDoorTie.lean); close each card by the builder's one call (the guide's Derived/Test/ToyasCard.lean, 'card_holds'). Laid BY PROGRAM, IN A SANDBOX (cutbox-door.mjs). By AI agents, Wed Nov 11 2026. No macro, syntax, notation, axiom, sorry.
-/
import Derived.Test.YtckbcnmcnhahhaaDoorRows
import GoSem.ClaimSeven
namespace Go.Proofs.YtckbcnmcnhahhaaDoor
namespace Rows

/-- THE TIED CARD OF 'atriumlaw17.HttpComes'. -/
def httpComesCard : Claim7 := { stood := { row := httpComesRow, standIns := [], harness := (true, "108fce350072dda7d72e7e6c6d7630eb2919568be64510e76b5dd3b61f767554"), looks := false }, kinds := [], alts := [], laidByText := true, laidKinds := [.data, .pinned], laidTests := true, laidLooks := .later }
def HttpComesCardSaid : Prop := Claim7.holds Tryd.pinned (.plain (OpenSpec.ofChange httpComesSpec)) httpComesCard

/-- THE TIED CARD OF 'atriumlaw17.HttpParses'. -/
def httpParsesCard : Claim7 := { stood := { row := httpParsesRow, standIns := [], harness := (true, "108fce350072dda7d72e7e6c6d7630eb2919568be64510e76b5dd3b61f767554"), looks := false }, kinds := [], alts := [], laidByText := true, laidKinds := [.data, .pinned], laidTests := true, laidLooks := .later }
def HttpParsesCardSaid : Prop := Claim7.holds Tryd.pinned (.plain (OpenSpec.ofChange httpParsesSpec)) httpParsesCard

/-- THE TIED CARD OF 'atriumlaw17.HttpFields'. -/
def httpFieldsCard : Claim7 := { stood := { row := httpFieldsRow, standIns := [], harness := (true, "108fce350072dda7d72e7e6c6d7630eb2919568be64510e76b5dd3b61f767554"), looks := false }, kinds := [], alts := [], laidByText := true, laidKinds := [.data, .pinned], laidTests := true, laidLooks := .later }
def HttpFieldsCardSaid : Prop := Claim7.holds Tryd.pinned (.plain (OpenSpec.ofChange httpFieldsSpec)) httpFieldsCard

/-- THE TIED CARD OF 'atriumlaw17.HttpPrints'. -/
def httpPrintsCard : Claim7 := { stood := { row := httpPrintsRow, standIns := [], harness := (true, "108fce350072dda7d72e7e6c6d7630eb2919568be64510e76b5dd3b61f767554"), looks := false }, kinds := [], alts := [], laidByText := true, laidKinds := [.data, .pinned], laidTests := true, laidLooks := .later }
def HttpPrintsCardSaid : Prop := Claim7.holds Tryd.pinned (.plain (OpenSpec.ofChange httpPrintsSpec)) httpPrintsCard

/-- THE TIED CARD OF 'atriumlaw17.HttpPipes'. -/
def httpPipesCard : Claim7 := { stood := { row := httpPipesRow, standIns := [], harness := (true, "108fce350072dda7d72e7e6c6d7630eb2919568be64510e76b5dd3b61f767554"), looks := false }, kinds := [], alts := [], laidByText := true, laidKinds := [.data, .pinned], laidTests := true, laidLooks := .later }
def HttpPipesCardSaid : Prop := Claim7.holds Tryd.pinned (.plain (OpenSpec.ofChange httpPipesSpec)) httpPipesCard

/-- THE SECOND FORM's CARD OF 'atriumlaw17.HttpComes'. -/
def httpComesUptoCard : Claim7 := { stood := { row := httpComesUptoRow, standIns := [], harness := (true, "108fce350072dda7d72e7e6c6d7630eb2919568be64510e76b5dd3b61f767554"), looks := false }, kinds := [], alts := [], laidByText := true, laidKinds := [.data, .pinned], laidTests := true, laidLooks := .later }
def HttpComesUptoCardSaid : Prop := Claim7.holds Tryd.pinned (.plain (OpenSpec.upto httpComesSpec)) httpComesUptoCard

/-- THE SECOND FORM's CARD OF 'atriumlaw17.HttpParses'. -/
def httpParsesUptoCard : Claim7 := { stood := { row := httpParsesUptoRow, standIns := [], harness := (true, "108fce350072dda7d72e7e6c6d7630eb2919568be64510e76b5dd3b61f767554"), looks := false }, kinds := [], alts := [], laidByText := true, laidKinds := [.data, .pinned], laidTests := true, laidLooks := .later }
def HttpParsesUptoCardSaid : Prop := Claim7.holds Tryd.pinned (.plain (OpenSpec.upto httpParsesSpec)) httpParsesUptoCard

/-- THE SECOND FORM's CARD OF 'atriumlaw17.HttpFields'. -/
def httpFieldsUptoCard : Claim7 := { stood := { row := httpFieldsUptoRow, standIns := [], harness := (true, "108fce350072dda7d72e7e6c6d7630eb2919568be64510e76b5dd3b61f767554"), looks := false }, kinds := [], alts := [], laidByText := true, laidKinds := [.data, .pinned], laidTests := true, laidLooks := .later }
def HttpFieldsUptoCardSaid : Prop := Claim7.holds Tryd.pinned (.plain (OpenSpec.upto httpFieldsSpec)) httpFieldsUptoCard

/-- THE SECOND FORM's CARD OF 'atriumlaw17.HttpPrints'. -/
def httpPrintsUptoCard : Claim7 := { stood := { row := httpPrintsUptoRow, standIns := [], harness := (true, "108fce350072dda7d72e7e6c6d7630eb2919568be64510e76b5dd3b61f767554"), looks := false }, kinds := [], alts := [], laidByText := true, laidKinds := [.data, .pinned], laidTests := true, laidLooks := .later }
def HttpPrintsUptoCardSaid : Prop := Claim7.holds Tryd.pinned (.plain (OpenSpec.upto httpPrintsSpec)) httpPrintsUptoCard

/-- THE SECOND FORM's CARD OF 'atriumlaw17.HttpPipes'. -/
def httpPipesUptoCard : Claim7 := { stood := { row := httpPipesUptoRow, standIns := [], harness := (true, "108fce350072dda7d72e7e6c6d7630eb2919568be64510e76b5dd3b61f767554"), looks := false }, kinds := [], alts := [], laidByText := true, laidKinds := [.data, .pinned], laidTests := true, laidLooks := .later }
def HttpPipesUptoCardSaid : Prop := Claim7.holds Tryd.pinned (.plain (OpenSpec.upto httpPipesSpec)) httpPipesUptoCard
end Rows
end Go.Proofs.YtckbcnmcnhahhaaDoor
