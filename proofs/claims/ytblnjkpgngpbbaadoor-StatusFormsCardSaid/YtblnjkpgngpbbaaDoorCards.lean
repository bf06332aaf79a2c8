/-
  DERIVED. GIVEN WITH THE SEED: THE CARDS: each row of YtblnjkpgngpbbaaDoorRows.lean that lists a variable, with what it lists TIED to the program's text (the seventh form; the later family's looks); each row that meets fmt, with fmt's text TOLD by the authors' own Lean function (tested against real Go, not proved from fmt's source: count such statements apart). THE CARD IS WHAT COUNTS. Prove the row's statement (the work); the ties are given (YtblnjkpgngpbbaaDoorTie.lean); close each card by the builder's one call (the guide's Derived/Test/ToyasCard.lean, 'card_holds'). Laid BY PROGRAM, IN A SANDBOX (cutbox-door.mjs). By AI agents, Wed Nov 11 2026. No macro, syntax, notation, axiom, sorry.
-/
import Derived.Test.YtblnjkpgngpbbaaDoorRows
import GoSem.ClaimSeven
namespace Go.Proofs.YtblnjkpgngpbbaaDoor
namespace Rows

/-- THE TIED CARD OF 'halterlaw26.StatusForms'. -/
def statusFormsCard : Claim7 := { stood := { row := statusFormsRow, standIns := [], harness := (true, "51149e9b2396d4742dc743f6e62b954a98c5af1b71bc0410dec5887d2321b43f"), looks := true }, kinds := [], alts := [], laidByText := true, laidKinds := [.data, .data, .data, .handle], laidTests := true, laidLooks := .later }
def StatusFormsCardSaid : Prop := Claim7.holds Tryd.pinned (.plain (OpenSpec.ofChange statusFormsSpec)) statusFormsCard

/-- THE TIED CARD OF 'halterlaw26.StatusBack'. -/
def statusBackCard : Claim7 := { stood := { row := statusBackRow, standIns := [], harness := (true, "51149e9b2396d4742dc743f6e62b954a98c5af1b71bc0410dec5887d2321b43f"), looks := true }, kinds := [], alts := [], laidByText := true, laidKinds := [.data, .data, .data, .handle], laidTests := true, laidLooks := .later }
def StatusBackCardSaid : Prop := Claim7.holds Tryd.pinned (.plain (OpenSpec.ofChange statusBackSpec)) statusBackCard

/-- THE SECOND FORM's CARD OF 'halterlaw26.StatusForms'. -/
def statusFormsUptoCard : Claim7 := { stood := { row := statusFormsUptoRow, standIns := [], harness := (true, "51149e9b2396d4742dc743f6e62b954a98c5af1b71bc0410dec5887d2321b43f"), looks := true }, kinds := [], alts := [], laidByText := true, laidKinds := [.data, .data, .data, .handle], laidTests := true, laidLooks := .later }
def StatusFormsUptoCardSaid : Prop := Claim7.holds Tryd.pinned (.plain (OpenSpec.upto statusFormsSpec)) statusFormsUptoCard

/-- THE SECOND FORM's CARD OF 'halterlaw26.StatusBack'. -/
def statusBackUptoCard : Claim7 := { stood := { row := statusBackUptoRow, standIns := [], harness := (true, "51149e9b2396d4742dc743f6e62b954a98c5af1b71bc0410dec5887d2321b43f"), looks := true }, kinds := [], alts := [], laidByText := true, laidKinds := [.data, .data, .data, .handle], laidTests := true, laidLooks := .later }
def StatusBackUptoCardSaid : Prop := Claim7.holds Tryd.pinned (.plain (OpenSpec.upto statusBackSpec)) statusBackUptoCard
end Rows
end Go.Proofs.YtblnjkpgngpbbaaDoor
