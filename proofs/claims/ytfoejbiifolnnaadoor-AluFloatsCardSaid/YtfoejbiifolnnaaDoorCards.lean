/-
  DERIVED. GIVEN WITH THE SEED: THE CARDS: each row of YtfoejbiifolnnaaDoorRows.lean that lists a variable, with what it lists TIED to the program's text (the seventh form; the later family's looks); each row that meets fmt, with fmt's text TOLD by the authors' own Lean function (tested against real Go, not proved from fmt's source: count such statements apart). THE CARD IS WHAT COUNTS. Prove the row's statement (the work); the ties are given (YtfoejbiifolnnaaDoorTie.lean); close each card by the builder's one call (the guide's Derived/Test/ToyasCard.lean, 'card_holds'). Laid BY PROGRAM, IN A SANDBOX (cutbox-door.mjs). By AI agents, Wed Nov 11 2026. No macro, syntax, notation, axiom, sorry.
-/
import Derived.Test.YtfoejbiifolnnaaDoorRows
import GoSem.ClaimSeven
namespace Go.Proofs.YtfoejbiifolnnaaDoor
namespace Rows

/-- THE TIED CARD OF 'halterlaw11.AluDoes'. -/
def aluDoesCard : Claim7 := { stood := { row := aluDoesRow, standIns := [], harness := (true, "8818b6878aa664a97f982dd432ddfbc24d09b450e8c74292fff1b5b194f77d14"), looks := true }, kinds := [], alts := [], laidByText := true, laidKinds := [.handle], laidTests := true, laidLooks := .later }
def AluDoesCardSaid : Prop := Claim7.holds Tryd.pinned (.plain (OpenSpec.ofChange aluDoesSpec)) aluDoesCard

/-- THE TIED CARD OF 'halterlaw11.AluFloats'. -/
def aluFloatsCard : Claim7 := { stood := { row := aluFloatsRow, standIns := [], harness := (true, "8818b6878aa664a97f982dd432ddfbc24d09b450e8c74292fff1b5b194f77d14"), looks := true }, kinds := [], alts := [], laidByText := true, laidKinds := [.handle], laidTests := true, laidLooks := .later }
def AluFloatsCardSaid : Prop := Claim7.holds Tryd.pinned (.plain (OpenSpec.ofChange aluFloatsSpec)) aluFloatsCard

/-- THE TIED CARD OF 'halterlaw11.AluCarries'. -/
def aluCarriesCard : Claim7 := { stood := { row := aluCarriesRow, standIns := [], harness := (true, "8818b6878aa664a97f982dd432ddfbc24d09b450e8c74292fff1b5b194f77d14"), looks := true }, kinds := [], alts := [], laidByText := true, laidKinds := [.handle], laidTests := true, laidLooks := .later }
def AluCarriesCardSaid : Prop := Claim7.holds Tryd.pinned (.plain (OpenSpec.ofChange aluCarriesSpec)) aluCarriesCard

/-- THE TIED CARD OF 'halterlaw11.AluSteps'. -/
def aluStepsCard : Claim7 := { stood := { row := aluStepsRow, standIns := [], harness := (true, "8818b6878aa664a97f982dd432ddfbc24d09b450e8c74292fff1b5b194f77d14"), looks := true }, kinds := [], alts := [], laidByText := true, laidKinds := [.handle], laidTests := true, laidLooks := .later }
def AluStepsCardSaid : Prop := Claim7.holds Tryd.pinned (.plain (OpenSpec.ofChange aluStepsSpec)) aluStepsCard

/-- THE SECOND FORM's CARD OF 'halterlaw11.AluDoes'. -/
def aluDoesUptoCard : Claim7 := { stood := { row := aluDoesUptoRow, standIns := [], harness := (true, "8818b6878aa664a97f982dd432ddfbc24d09b450e8c74292fff1b5b194f77d14"), looks := true }, kinds := [], alts := [], laidByText := true, laidKinds := [.handle], laidTests := true, laidLooks := .later }
def AluDoesUptoCardSaid : Prop := Claim7.holds Tryd.pinned (.plain (OpenSpec.upto aluDoesSpec)) aluDoesUptoCard

/-- THE SECOND FORM's CARD OF 'halterlaw11.AluFloats'. -/
def aluFloatsUptoCard : Claim7 := { stood := { row := aluFloatsUptoRow, standIns := [], harness := (true, "8818b6878aa664a97f982dd432ddfbc24d09b450e8c74292fff1b5b194f77d14"), looks := true }, kinds := [], alts := [], laidByText := true, laidKinds := [.handle], laidTests := true, laidLooks := .later }
def AluFloatsUptoCardSaid : Prop := Claim7.holds Tryd.pinned (.plain (OpenSpec.upto aluFloatsSpec)) aluFloatsUptoCard

/-- THE SECOND FORM's CARD OF 'halterlaw11.AluCarries'. -/
def aluCarriesUptoCard : Claim7 := { stood := { row := aluCarriesUptoRow, standIns := [], harness := (true, "8818b6878aa664a97f982dd432ddfbc24d09b450e8c74292fff1b5b194f77d14"), looks := true }, kinds := [], alts := [], laidByText := true, laidKinds := [.handle], laidTests := true, laidLooks := .later }
def AluCarriesUptoCardSaid : Prop := Claim7.holds Tryd.pinned (.plain (OpenSpec.upto aluCarriesSpec)) aluCarriesUptoCard

/-- THE SECOND FORM's CARD OF 'halterlaw11.AluSteps'. -/
def aluStepsUptoCard : Claim7 := { stood := { row := aluStepsUptoRow, standIns := [], harness := (true, "8818b6878aa664a97f982dd432ddfbc24d09b450e8c74292fff1b5b194f77d14"), looks := true }, kinds := [], alts := [], laidByText := true, laidKinds := [.handle], laidTests := true, laidLooks := .later }
def AluStepsUptoCardSaid : Prop := Claim7.holds Tryd.pinned (.plain (OpenSpec.upto aluStepsSpec)) aluStepsUptoCard
end Rows
end Go.Proofs.YtfoejbiifolnnaaDoor
