/-
  DERIVED. GIVEN WITH THE SEED: THE CARDS: each row of YtmpdijmcoboiiaaDoorRows.lean that lists a variable, with what it lists TIED to the program's text (the seventh form; the later family's looks); each row that meets fmt, with fmt's text TOLD by the authors' own Lean function (tested against real Go, not proved from fmt's source: count such statements apart). THE CARD IS WHAT COUNTS. Prove the row's statement (the work); the ties are given (YtmpdijmcoboiiaaDoorTie.lean); close each card by the builder's one call (the guide's Derived/Test/ToyasCard.lean, 'card_holds'). Laid BY PROGRAM, IN A SANDBOX (cutbox-door.mjs). By AI agents, Wed Nov 11 2026. No macro, syntax, notation, axiom, sorry.
-/
import Derived.Test.YtmpdijmcoboiiaaDoorRows
import GoSem.ClaimSeven
namespace Go.Proofs.YtmpdijmcoboiiaaDoor
namespace Rows

/-- THE TIED CARD OF 'halterlaw25.SigOrder'. -/
def sigOrderCard : Claim7 := { stood := { row := sigOrderRow, standIns := [], harness := (true, "1df864693a9fd12061500694ccdd7952e205aee30432e39f0b16c6475835fd60"), looks := true }, kinds := [], alts := [], laidByText := true, laidKinds := [.data, .handle], laidTests := true, laidLooks := .later }
def SigOrderCardSaid : Prop := Claim7.holds Tryd.pinned (.plain (OpenSpec.ofChange sigOrderSpec)) sigOrderCard

/-- THE TIED CARD OF 'halterlaw25.SigLaws'. -/
def sigLawsCard : Claim7 := { stood := { row := sigLawsRow, standIns := [], harness := (true, "1df864693a9fd12061500694ccdd7952e205aee30432e39f0b16c6475835fd60"), looks := true }, kinds := [], alts := [], laidByText := true, laidKinds := [.data, .handle], laidTests := true, laidLooks := .later }
def SigLawsCardSaid : Prop := Claim7.holds Tryd.pinned (.plain (OpenSpec.ofChange sigLawsSpec)) sigLawsCard

/-- THE TIED CARD OF 'halterlaw25.SigSteps'. -/
def sigStepsCard : Claim7 := { stood := { row := sigStepsRow, standIns := [], harness := (true, "1df864693a9fd12061500694ccdd7952e205aee30432e39f0b16c6475835fd60"), looks := true }, kinds := [], alts := [], laidByText := true, laidKinds := [.data, .handle], laidTests := true, laidLooks := .later }
def SigStepsCardSaid : Prop := Claim7.holds Tryd.pinned (.plain (OpenSpec.ofChange sigStepsSpec)) sigStepsCard

/-- THE SECOND FORM's CARD OF 'halterlaw25.SigOrder'. -/
def sigOrderUptoCard : Claim7 := { stood := { row := sigOrderUptoRow, standIns := [], harness := (true, "1df864693a9fd12061500694ccdd7952e205aee30432e39f0b16c6475835fd60"), looks := true }, kinds := [], alts := [], laidByText := true, laidKinds := [.data, .handle], laidTests := true, laidLooks := .later }
def SigOrderUptoCardSaid : Prop := Claim7.holds Tryd.pinned (.plain (OpenSpec.upto sigOrderSpec)) sigOrderUptoCard

/-- THE SECOND FORM's CARD OF 'halterlaw25.SigLaws'. -/
def sigLawsUptoCard : Claim7 := { stood := { row := sigLawsUptoRow, standIns := [], harness := (true, "1df864693a9fd12061500694ccdd7952e205aee30432e39f0b16c6475835fd60"), looks := true }, kinds := [], alts := [], laidByText := true, laidKinds := [.data, .handle], laidTests := true, laidLooks := .later }
def SigLawsUptoCardSaid : Prop := Claim7.holds Tryd.pinned (.plain (OpenSpec.upto sigLawsSpec)) sigLawsUptoCard

/-- THE SECOND FORM's CARD OF 'halterlaw25.SigSteps'. -/
def sigStepsUptoCard : Claim7 := { stood := { row := sigStepsUptoRow, standIns := [], harness := (true, "1df864693a9fd12061500694ccdd7952e205aee30432e39f0b16c6475835fd60"), looks := true }, kinds := [], alts := [], laidByText := true, laidKinds := [.data, .handle], laidTests := true, laidLooks := .later }
def SigStepsUptoCardSaid : Prop := Claim7.holds Tryd.pinned (.plain (OpenSpec.upto sigStepsSpec)) sigStepsUptoCard
end Rows
end Go.Proofs.YtmpdijmcoboiiaaDoor
