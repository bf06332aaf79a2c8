/-
  DERIVED. GIVEN WITH THE SEED: THE CARDS: each row of YtbnlochgbhcfnaaGreatDoorRows.lean that lists a variable, with what it lists TIED to the program's text (the seventh form; the later family's looks); each row that meets fmt, with fmt's text TOLD by the authors' own Lean function (tested against real Go, not proved from fmt's source: count such statements apart). THE CARD IS WHAT COUNTS. Prove the row's statement (the work); the ties are given (YtbnlochgbhcfnaaGreatDoorTie.lean); close each card by the builder's one call (the guide's Derived/Test/ToyasCard.lean, 'card_holds'). Laid BY PROGRAM, IN A SANDBOX (cutbox-door.mjs). By AI agents, Wed Nov 11 2026. No macro, syntax, notation, axiom, sorry.
-/
import Derived.Test.YtbnlochgbhcfnaaGreatDoorRows
import GoSem.ClaimSeven
namespace Go.Proofs.YtbnlochgbhcfnaaGreatDoor
namespace Rows

/-- THE TIED CARD OF 'halterlaw33.ProcSteps'. -/
def procStepsCard : Claim7 := { stood := { row := procStepsRow, standIns := [], harness := (true, "7d0663ef206caa373f70bb852128f130945ebddf7223debc219579664bf8e7ae"), looks := true }, kinds := [], alts := [], laidByText := true, laidKinds := [.data, .data, .handle, .pinned], laidTests := true, laidLooks := .later }
def ProcStepsCardSaid : Prop := Claim7.holds Tryz.pinned (.plain (OpenSpec.ofChange procStepsSpec)) procStepsCard

/-- THE SECOND FORM's CARD OF 'halterlaw33.ProcSteps'. -/
def procStepsUptoCard : Claim7 := { stood := { row := procStepsUptoRow, standIns := [], harness := (true, "7d0663ef206caa373f70bb852128f130945ebddf7223debc219579664bf8e7ae"), looks := true }, kinds := [], alts := [], laidByText := true, laidKinds := [.data, .data, .handle, .pinned], laidTests := true, laidLooks := .later }
def ProcStepsUptoCardSaid : Prop := Claim7.holds Tryz.pinned (.plain (OpenSpec.upto procStepsSpec)) procStepsUptoCard
end Rows
end Go.Proofs.YtbnlochgbhcfnaaGreatDoor
