/-
  DERIVED. GIVEN WITH THE SEED: THE CARDS: each row of YtbpaijnlapedlaaDoorRows.lean that lists a variable, with what it lists TIED to the program's text (the seventh form; the later family's looks); each row that meets fmt, with fmt's text TOLD by the authors' own Lean function (tested against real Go, not proved from fmt's source: count such statements apart). THE CARD IS WHAT COUNTS. Prove the row's statement (the work); the ties are given (YtbpaijnlapedlaaDoorTie.lean); close each card by the builder's one call (the guide's Derived/Test/ToyasCard.lean, 'card_holds'). Laid BY PROGRAM, IN A SANDBOX (cutbox-door.mjs). By AI agents, Wed Nov 11 2026. No macro, syntax, notation, axiom, sorry.
-/
import Derived.Test.YtbpaijnlapedlaaDoorRows
import GoSem.ClaimSeven
namespace Go.Proofs.YtbpaijnlapedlaaDoor
namespace Rows

/-- THE TIED CARD OF 'halterlaw20.FdsSteps'. -/
def fdsStepsCard : Claim7 := { stood := { row := fdsStepsRow, standIns := [], harness := (true, "1ae2fa30f38c2c37fba9ec508bca6f5d423a2ae2dae46b1e58bccfcd801d133c"), looks := true }, kinds := [], alts := [], laidByText := true, laidKinds := [.handle], laidTests := true, laidLooks := .later }
def FdsStepsCardSaid : Prop := Claim7.holds Tryd.pinned (.plain (OpenSpec.ofChange fdsStepsSpec)) fdsStepsCard

/-- THE TIED CARD OF 'halterlaw20.FdsKeeps'. -/
def fdsKeepsCard : Claim7 := { stood := { row := fdsKeepsRow, standIns := [], harness := (true, "1ae2fa30f38c2c37fba9ec508bca6f5d423a2ae2dae46b1e58bccfcd801d133c"), looks := true }, kinds := [], alts := [], laidByText := true, laidKinds := [.handle], laidTests := true, laidLooks := .later }
def FdsKeepsCardSaid : Prop := Claim7.holds Tryd.pinned (.plain (OpenSpec.ofChange fdsKeepsSpec)) fdsKeepsCard

/-- THE TIED CARD OF 'halterlaw20.FdsDoubles'. -/
def fdsDoublesCard : Claim7 := { stood := { row := fdsDoublesRow, standIns := [], harness := (true, "1ae2fa30f38c2c37fba9ec508bca6f5d423a2ae2dae46b1e58bccfcd801d133c"), looks := true }, kinds := [], alts := [], laidByText := true, laidKinds := [.handle], laidTests := true, laidLooks := .later }
def FdsDoublesCardSaid : Prop := Claim7.holds Tryd.pinned (.plain (OpenSpec.ofChange fdsDoublesSpec)) fdsDoublesCard

/-- THE SECOND FORM's CARD OF 'halterlaw20.FdsSteps'. -/
def fdsStepsUptoCard : Claim7 := { stood := { row := fdsStepsUptoRow, standIns := [], harness := (true, "1ae2fa30f38c2c37fba9ec508bca6f5d423a2ae2dae46b1e58bccfcd801d133c"), looks := true }, kinds := [], alts := [], laidByText := true, laidKinds := [.handle], laidTests := true, laidLooks := .later }
def FdsStepsUptoCardSaid : Prop := Claim7.holds Tryd.pinned (.plain (OpenSpec.upto fdsStepsSpec)) fdsStepsUptoCard

/-- THE SECOND FORM's CARD OF 'halterlaw20.FdsKeeps'. -/
def fdsKeepsUptoCard : Claim7 := { stood := { row := fdsKeepsUptoRow, standIns := [], harness := (true, "1ae2fa30f38c2c37fba9ec508bca6f5d423a2ae2dae46b1e58bccfcd801d133c"), looks := true }, kinds := [], alts := [], laidByText := true, laidKinds := [.handle], laidTests := true, laidLooks := .later }
def FdsKeepsUptoCardSaid : Prop := Claim7.holds Tryd.pinned (.plain (OpenSpec.upto fdsKeepsSpec)) fdsKeepsUptoCard

/-- THE SECOND FORM's CARD OF 'halterlaw20.FdsDoubles'. -/
def fdsDoublesUptoCard : Claim7 := { stood := { row := fdsDoublesUptoRow, standIns := [], harness := (true, "1ae2fa30f38c2c37fba9ec508bca6f5d423a2ae2dae46b1e58bccfcd801d133c"), looks := true }, kinds := [], alts := [], laidByText := true, laidKinds := [.handle], laidTests := true, laidLooks := .later }
def FdsDoublesUptoCardSaid : Prop := Claim7.holds Tryd.pinned (.plain (OpenSpec.upto fdsDoublesSpec)) fdsDoublesUptoCard
end Rows
end Go.Proofs.YtbpaijnlapedlaaDoor
