/-
  DERIVED. GIVEN WITH THE SEED: THE CARDS: each row of YtjpabbkcbohmmaaDoorRows.lean that lists a variable, with what it lists TIED to the program's text (the seventh form; the later family's looks); each row that meets fmt, with fmt's text TOLD by the authors' own Lean function (tested against real Go, not proved from fmt's source: count such statements apart). THE CARD IS WHAT COUNTS. Prove the row's statement (the work); the ties are given (YtjpabbkcbohmmaaDoorTie.lean); close each card by the builder's one call (the guide's Derived/Test/ToyasCard.lean, 'card_holds'). Laid BY PROGRAM, IN A SANDBOX (cutbox-door.mjs). By AI agents, Wed Nov 11 2026. No macro, syntax, notation, axiom, sorry.
-/
import Derived.Test.YtjpabbkcbohmmaaDoorRows
import GoSem.ClaimSeven
namespace Go.Proofs.YtjpabbkcbohmmaaDoor
namespace Rows

/-- THE TIED CARD OF 'halterlaw29.AlarmSteps'. -/
def alarmStepsCard : Claim7 := { stood := { row := alarmStepsRow, standIns := [], harness := (true, "9744142e8113e0a61e48d806f4acd406081ccf22ebd3a448cc113ac6053e1405"), looks := true }, kinds := [], alts := [], laidByText := true, laidKinds := [.handle], laidTests := true, laidLooks := .later }
def AlarmStepsCardSaid : Prop := Claim7.holds Tryd.pinned (.plain (OpenSpec.ofChange alarmStepsSpec)) alarmStepsCard

/-- THE SECOND FORM's CARD OF 'halterlaw29.AlarmSteps'. -/
def alarmStepsUptoCard : Claim7 := { stood := { row := alarmStepsUptoRow, standIns := [], harness := (true, "9744142e8113e0a61e48d806f4acd406081ccf22ebd3a448cc113ac6053e1405"), looks := true }, kinds := [], alts := [], laidByText := true, laidKinds := [.handle], laidTests := true, laidLooks := .later }
def AlarmStepsUptoCardSaid : Prop := Claim7.holds Tryd.pinned (.plain (OpenSpec.upto alarmStepsSpec)) alarmStepsUptoCard
end Rows
end Go.Proofs.YtjpabbkcbohmmaaDoor
