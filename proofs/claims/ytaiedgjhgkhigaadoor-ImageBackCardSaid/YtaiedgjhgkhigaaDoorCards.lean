/-
  DERIVED. GIVEN WITH THE SEED: THE CARDS: each row of YtaiedgjhgkhigaaDoorRows.lean that lists a variable, with what it lists TIED to the program's text (the seventh form; the later family's looks); each row that meets fmt, with fmt's text TOLD by the authors' own Lean function (tested against real Go, not proved from fmt's source: count such statements apart). THE CARD IS WHAT COUNTS. Prove the row's statement (the work); the ties are given (YtaiedgjhgkhigaaDoorTie.lean); close each card by the builder's one call (the guide's Derived/Test/ToyasCard.lean, 'card_holds'). Laid BY PROGRAM, IN A SANDBOX (cutbox-door.mjs). By AI agents, Wed Nov 11 2026. No macro, syntax, notation, axiom, sorry.
-/
import Derived.Test.YtaiedgjhgkhigaaDoorRows
import GoSem.ClaimSeven
namespace Go.Proofs.YtaiedgjhgkhigaaDoor
namespace Rows

/-- THE TIED CARD OF 'halterlaw21.ImageForms'. -/
def imageFormsCard : Claim7 := { stood := { row := imageFormsRow, standIns := [], harness := (true, "c673f5b26ecd1a14bde79e3f67d0e7c3043df558c0ec58ae2d7ad4ff549159af"), looks := true }, kinds := [], alts := [], laidByText := true, laidKinds := [.handle], laidTests := true, laidLooks := .later }
def ImageFormsCardSaid : Prop := Claim7.holds Tryd.pinned (.plain (OpenSpec.ofChange imageFormsSpec)) imageFormsCard

/-- THE TIED CARD OF 'halterlaw21.ImageBack'. -/
def imageBackCard : Claim7 := { stood := { row := imageBackRow, standIns := [], harness := (true, "c673f5b26ecd1a14bde79e3f67d0e7c3043df558c0ec58ae2d7ad4ff549159af"), looks := true }, kinds := [], alts := [], laidByText := true, laidKinds := [.handle], laidTests := true, laidLooks := .later }
def ImageBackCardSaid : Prop := Claim7.holds Tryd.pinned (.plain (OpenSpec.ofChange imageBackSpec)) imageBackCard

/-- THE TIED CARD OF 'halterlaw21.ImageRuns'. -/
def imageRunsCard : Claim7 := { stood := { row := imageRunsRow, standIns := [], harness := (true, "c673f5b26ecd1a14bde79e3f67d0e7c3043df558c0ec58ae2d7ad4ff549159af"), looks := true }, kinds := [], alts := [], laidByText := true, laidKinds := [.handle], laidTests := true, laidLooks := .later }
def ImageRunsCardSaid : Prop := Claim7.holds Tryd.pinned (.plain (OpenSpec.ofChange imageRunsSpec)) imageRunsCard

/-- THE SECOND FORM's CARD OF 'halterlaw21.ImageForms'. -/
def imageFormsUptoCard : Claim7 := { stood := { row := imageFormsUptoRow, standIns := [], harness := (true, "c673f5b26ecd1a14bde79e3f67d0e7c3043df558c0ec58ae2d7ad4ff549159af"), looks := true }, kinds := [], alts := [], laidByText := true, laidKinds := [.handle], laidTests := true, laidLooks := .later }
def ImageFormsUptoCardSaid : Prop := Claim7.holds Tryd.pinned (.plain (OpenSpec.upto imageFormsSpec)) imageFormsUptoCard

/-- THE SECOND FORM's CARD OF 'halterlaw21.ImageBack'. -/
def imageBackUptoCard : Claim7 := { stood := { row := imageBackUptoRow, standIns := [], harness := (true, "c673f5b26ecd1a14bde79e3f67d0e7c3043df558c0ec58ae2d7ad4ff549159af"), looks := true }, kinds := [], alts := [], laidByText := true, laidKinds := [.handle], laidTests := true, laidLooks := .later }
def ImageBackUptoCardSaid : Prop := Claim7.holds Tryd.pinned (.plain (OpenSpec.upto imageBackSpec)) imageBackUptoCard

/-- THE SECOND FORM's CARD OF 'halterlaw21.ImageRuns'. -/
def imageRunsUptoCard : Claim7 := { stood := { row := imageRunsUptoRow, standIns := [], harness := (true, "c673f5b26ecd1a14bde79e3f67d0e7c3043df558c0ec58ae2d7ad4ff549159af"), looks := true }, kinds := [], alts := [], laidByText := true, laidKinds := [.handle], laidTests := true, laidLooks := .later }
def ImageRunsUptoCardSaid : Prop := Claim7.holds Tryd.pinned (.plain (OpenSpec.upto imageRunsSpec)) imageRunsUptoCard
end Rows
end Go.Proofs.YtaiedgjhgkhigaaDoor
