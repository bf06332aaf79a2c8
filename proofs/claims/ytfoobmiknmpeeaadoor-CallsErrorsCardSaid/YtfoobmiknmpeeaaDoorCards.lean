/-
  DERIVED. GIVEN WITH THE SEED: THE CARDS: each row of YtfoobmiknmpeeaaDoorRows.lean that lists a variable, with what it lists TIED to the program's text (the seventh form; the later family's looks); each row that meets fmt, with fmt's text TOLD by the authors' own Lean function (tested against real Go, not proved from fmt's source: count such statements apart). THE CARD IS WHAT COUNTS. Prove the row's statement (the work); the ties are given (YtfoobmiknmpeeaaDoorTie.lean); close each card by the builder's one call (the guide's Derived/Test/ToyasCard.lean, 'card_holds'). Laid BY PROGRAM, IN A SANDBOX (cutbox-door.mjs). By AI agents, Wed Nov 11 2026. No macro, syntax, notation, axiom, sorry.
-/
import Derived.Test.YtfoobmiknmpeeaaDoorRows
import GoSem.ClaimSeven
namespace Go.Proofs.YtfoobmiknmpeeaaDoor
namespace Rows

/-- THE TIED CARD OF 'halterlaw28.CallsNames'. -/
def callsNamesCard : Claim7 := { stood := { row := callsNamesRow, standIns := [], harness := (true, "ba4e765ca046c5cc0fe6c3a637a9f7131afc09f52b455fffd06a2ad41f66e67d"), looks := true }, kinds := [], alts := [], laidByText := true, laidKinds := [.handle], laidTests := true, laidLooks := .later }
def CallsNamesCardSaid : Prop := Claim7.holds Tryd.pinned (.plain (OpenSpec.ofChange callsNamesSpec)) callsNamesCard

/-- THE TIED CARD OF 'halterlaw28.CallsErrors'. -/
def callsErrorsCard : Claim7 := { stood := { row := callsErrorsRow, standIns := [], harness := (true, "ba4e765ca046c5cc0fe6c3a637a9f7131afc09f52b455fffd06a2ad41f66e67d"), looks := true }, kinds := [], alts := [], laidByText := true, laidKinds := [.handle], laidTests := true, laidLooks := .later }
def CallsErrorsCardSaid : Prop := Claim7.holds Tryd.pinned (.plain (OpenSpec.ofChange callsErrorsSpec)) callsErrorsCard

/-- THE SECOND FORM's CARD OF 'halterlaw28.CallsNames'. -/
def callsNamesUptoCard : Claim7 := { stood := { row := callsNamesUptoRow, standIns := [], harness := (true, "ba4e765ca046c5cc0fe6c3a637a9f7131afc09f52b455fffd06a2ad41f66e67d"), looks := true }, kinds := [], alts := [], laidByText := true, laidKinds := [.handle], laidTests := true, laidLooks := .later }
def CallsNamesUptoCardSaid : Prop := Claim7.holds Tryd.pinned (.plain (OpenSpec.upto callsNamesSpec)) callsNamesUptoCard

/-- THE SECOND FORM's CARD OF 'halterlaw28.CallsErrors'. -/
def callsErrorsUptoCard : Claim7 := { stood := { row := callsErrorsUptoRow, standIns := [], harness := (true, "ba4e765ca046c5cc0fe6c3a637a9f7131afc09f52b455fffd06a2ad41f66e67d"), looks := true }, kinds := [], alts := [], laidByText := true, laidKinds := [.handle], laidTests := true, laidLooks := .later }
def CallsErrorsUptoCardSaid : Prop := Claim7.holds Tryd.pinned (.plain (OpenSpec.upto callsErrorsSpec)) callsErrorsUptoCard
end Rows
end Go.Proofs.YtfoobmiknmpeeaaDoor
