/-
  DERIVED. GIVEN WITH THE SEED: THE CARDS: each row of YtndjiebeihcbgaaDoorRows.lean that lists a variable, with what it lists TIED to the program's text (the seventh form; the later family's looks); each row that meets fmt, with fmt's text TOLD by the authors' own Lean function (tested against real Go, not proved from fmt's source: count such statements apart). THE CARD IS WHAT COUNTS. Prove the row's statement (the work); the ties are given (YtndjiebeihcbgaaDoorTie.lean); close each card by the builder's one call (the guide's Derived/Test/ToyasCard.lean, 'card_holds'). Laid BY PROGRAM, IN A SANDBOX (cutbox-door.mjs). By AI agents, Wed Nov 11 2026. No macro, syntax, notation, axiom, sorry.
-/
import Derived.Test.YtndjiebeihcbgaaDoorRows
import GoSem.ClaimSeven
namespace Go.Proofs.YtndjiebeihcbgaaDoor
namespace Rows

/-- THE TIED CARD OF 'halterlaw03.SetSteps'. -/
def setStepsCard : Claim7 := { stood := { row := setStepsRow, standIns := [], harness := (true, "25d88f0fbedafc4eda8127f33461274f98724a86a3b18322bbb8b04e9b4a6ae0"), looks := true }, kinds := [], alts := [], laidByText := true, laidKinds := [.data, .data, .data, .sentinel, .sentinel], laidTests := true, laidLooks := .later }
def SetStepsCardSaid : Prop := Claim7.holds Tryd.pinned (.plain (OpenSpec.ofChange setStepsSpec)) setStepsCard

/-- THE TIED CARD OF 'halterlaw03.SetLaws'. -/
def setLawsCard : Claim7 := { stood := { row := setLawsRow, standIns := [], harness := (true, "25d88f0fbedafc4eda8127f33461274f98724a86a3b18322bbb8b04e9b4a6ae0"), looks := true }, kinds := [], alts := [], laidByText := true, laidKinds := [.data, .data, .data, .sentinel, .sentinel], laidTests := true, laidLooks := .later }
def SetLawsCardSaid : Prop := Claim7.holds Tryd.pinned (.plain (OpenSpec.ofChange setLawsSpec)) setLawsCard

/-- THE TIED CARD OF 'halterlaw03.SetGathers'. -/
def setGathersCard : Claim7 := { stood := { row := setGathersRow, standIns := [], harness := (true, "25d88f0fbedafc4eda8127f33461274f98724a86a3b18322bbb8b04e9b4a6ae0"), looks := true }, kinds := [], alts := [], laidByText := true, laidKinds := [.data, .data, .data, .sentinel, .sentinel], laidTests := true, laidLooks := .later }
def SetGathersCardSaid : Prop := Claim7.holds Tryd.pinned (.plain (OpenSpec.ofChange setGathersSpec)) setGathersCard

/-- THE TIED CARD OF 'halterlaw03.SetTexts'. -/
def setTextsCard : Claim7 := { stood := { row := setTextsRow, standIns := [], harness := (true, "25d88f0fbedafc4eda8127f33461274f98724a86a3b18322bbb8b04e9b4a6ae0"), looks := true }, kinds := [], alts := [], laidByText := true, laidKinds := [.data, .data, .data, .handle, .sentinel, .sentinel], laidTests := true, laidLooks := .later }
def SetTextsCardSaid : Prop := Claim7.holds Tryd.pinned (.plain (OpenSpec.ofChange setTextsSpec)) setTextsCard

/-- THE SECOND FORM's CARD OF 'halterlaw03.SetSteps'. -/
def setStepsUptoCard : Claim7 := { stood := { row := setStepsUptoRow, standIns := [], harness := (true, "25d88f0fbedafc4eda8127f33461274f98724a86a3b18322bbb8b04e9b4a6ae0"), looks := true }, kinds := [], alts := [], laidByText := true, laidKinds := [.data, .data, .data, .sentinel, .sentinel], laidTests := true, laidLooks := .later }
def SetStepsUptoCardSaid : Prop := Claim7.holds Tryd.pinned (.plain (OpenSpec.upto setStepsSpec)) setStepsUptoCard

/-- THE SECOND FORM's CARD OF 'halterlaw03.SetLaws'. -/
def setLawsUptoCard : Claim7 := { stood := { row := setLawsUptoRow, standIns := [], harness := (true, "25d88f0fbedafc4eda8127f33461274f98724a86a3b18322bbb8b04e9b4a6ae0"), looks := true }, kinds := [], alts := [], laidByText := true, laidKinds := [.data, .data, .data, .sentinel, .sentinel], laidTests := true, laidLooks := .later }
def SetLawsUptoCardSaid : Prop := Claim7.holds Tryd.pinned (.plain (OpenSpec.upto setLawsSpec)) setLawsUptoCard

/-- THE SECOND FORM's CARD OF 'halterlaw03.SetGathers'. -/
def setGathersUptoCard : Claim7 := { stood := { row := setGathersUptoRow, standIns := [], harness := (true, "25d88f0fbedafc4eda8127f33461274f98724a86a3b18322bbb8b04e9b4a6ae0"), looks := true }, kinds := [], alts := [], laidByText := true, laidKinds := [.data, .data, .data, .sentinel, .sentinel], laidTests := true, laidLooks := .later }
def SetGathersUptoCardSaid : Prop := Claim7.holds Tryd.pinned (.plain (OpenSpec.upto setGathersSpec)) setGathersUptoCard

/-- THE SECOND FORM's CARD OF 'halterlaw03.SetTexts'. -/
def setTextsUptoCard : Claim7 := { stood := { row := setTextsUptoRow, standIns := [], harness := (true, "25d88f0fbedafc4eda8127f33461274f98724a86a3b18322bbb8b04e9b4a6ae0"), looks := true }, kinds := [], alts := [], laidByText := true, laidKinds := [.data, .data, .data, .handle, .sentinel, .sentinel], laidTests := true, laidLooks := .later }
def SetTextsUptoCardSaid : Prop := Claim7.holds Tryd.pinned (.plain (OpenSpec.upto setTextsSpec)) setTextsUptoCard
end Rows
end Go.Proofs.YtndjiebeihcbgaaDoor
