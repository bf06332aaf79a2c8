/-
  DERIVED. GIVEN WITH THE SEED: THE CARDS: each row of YtlkhfagmpoibaaaDoorRows.lean that lists a variable, with what it lists TIED to the program's text (the seventh form; the later family's looks); each row that meets fmt, with fmt's text TOLD by the authors' own Lean function (tested against real Go, not proved from fmt's source: count such statements apart). THE CARD IS WHAT COUNTS. Prove the row's statement (the work); the ties are given (YtlkhfagmpoibaaaDoorTie.lean); close each card by the builder's one call (the guide's Derived/Test/ToyasCard.lean, 'card_holds'). Laid BY PROGRAM, IN A SANDBOX (cutbox-door.mjs). By AI agents, Wed Nov 11 2026. No macro, syntax, notation, axiom, sorry.
-/
import Derived.Test.YtlkhfagmpoibaaaDoorRows
import GoSem.ClaimSeven
namespace Go.Proofs.YtlkhfagmpoibaaaDoor
namespace Rows

/-- THE TIED CARD OF 'halterlaw18.PipeOrder'. -/
def pipeOrderCard : Claim7 := { stood := { row := pipeOrderRow, standIns := [], harness := (true, "a36ddc622b741d64d089287ce37312950ea35beb98786648aec5df5fd495fd65"), looks := true }, kinds := [], alts := [], laidByText := true, laidKinds := [.handle], laidTests := true, laidLooks := .later }
def PipeOrderCardSaid : Prop := Claim7.holds Tryd.pinned (.plain (OpenSpec.ofChange pipeOrderSpec)) pipeOrderCard

/-- THE TIED CARD OF 'halterlaw18.PipeSteps'. -/
def pipeStepsCard : Claim7 := { stood := { row := pipeStepsRow, standIns := [], harness := (true, "a36ddc622b741d64d089287ce37312950ea35beb98786648aec5df5fd495fd65"), looks := true }, kinds := [], alts := [], laidByText := true, laidKinds := [.handle], laidTests := true, laidLooks := .later }
def PipeStepsCardSaid : Prop := Claim7.holds Tryd.pinned (.plain (OpenSpec.ofChange pipeStepsSpec)) pipeStepsCard

/-- THE TIED CARD OF 'halterlaw18.PipeEnds'. -/
def pipeEndsCard : Claim7 := { stood := { row := pipeEndsRow, standIns := [], harness := (true, "a36ddc622b741d64d089287ce37312950ea35beb98786648aec5df5fd495fd65"), looks := true }, kinds := [], alts := [], laidByText := true, laidKinds := [.handle], laidTests := true, laidLooks := .later }
def PipeEndsCardSaid : Prop := Claim7.holds Tryd.pinned (.plain (OpenSpec.ofChange pipeEndsSpec)) pipeEndsCard

/-- THE SECOND FORM's CARD OF 'halterlaw18.PipeOrder'. -/
def pipeOrderUptoCard : Claim7 := { stood := { row := pipeOrderUptoRow, standIns := [], harness := (true, "a36ddc622b741d64d089287ce37312950ea35beb98786648aec5df5fd495fd65"), looks := true }, kinds := [], alts := [], laidByText := true, laidKinds := [.handle], laidTests := true, laidLooks := .later }
def PipeOrderUptoCardSaid : Prop := Claim7.holds Tryd.pinned (.plain (OpenSpec.upto pipeOrderSpec)) pipeOrderUptoCard

/-- THE SECOND FORM's CARD OF 'halterlaw18.PipeSteps'. -/
def pipeStepsUptoCard : Claim7 := { stood := { row := pipeStepsUptoRow, standIns := [], harness := (true, "a36ddc622b741d64d089287ce37312950ea35beb98786648aec5df5fd495fd65"), looks := true }, kinds := [], alts := [], laidByText := true, laidKinds := [.handle], laidTests := true, laidLooks := .later }
def PipeStepsUptoCardSaid : Prop := Claim7.holds Tryd.pinned (.plain (OpenSpec.upto pipeStepsSpec)) pipeStepsUptoCard

/-- THE SECOND FORM's CARD OF 'halterlaw18.PipeEnds'. -/
def pipeEndsUptoCard : Claim7 := { stood := { row := pipeEndsUptoRow, standIns := [], harness := (true, "a36ddc622b741d64d089287ce37312950ea35beb98786648aec5df5fd495fd65"), looks := true }, kinds := [], alts := [], laidByText := true, laidKinds := [.handle], laidTests := true, laidLooks := .later }
def PipeEndsUptoCardSaid : Prop := Claim7.holds Tryd.pinned (.plain (OpenSpec.upto pipeEndsSpec)) pipeEndsUptoCard
end Rows
end Go.Proofs.YtlkhfagmpoibaaaDoor
