/-
  DERIVED. GIVEN WITH THE SEED: THE CARDS: each row of YtbnlochgbhcfnaaDoorRows.lean that lists a variable, with what it lists TIED to the program's text (the seventh form; the later family's looks); each row that meets fmt, with fmt's text TOLD by the authors' own Lean function (tested against real Go, not proved from fmt's source: count such statements apart). THE CARD IS WHAT COUNTS. Prove the row's statement (the work); the ties are given (YtbnlochgbhcfnaaDoorTie.lean); close each card by the builder's one call (the guide's Derived/Test/ToyasCard.lean, 'card_holds'). Laid BY PROGRAM, IN A SANDBOX (cutbox-door.mjs). By AI agents, Wed Nov 11 2026. No macro, syntax, notation, axiom, sorry.
-/
import Derived.Test.YtbnlochgbhcfnaaDoorRows
import GoSem.ClaimSeven
namespace Go.Proofs.YtbnlochgbhcfnaaDoor
namespace Rows

/-- THE TIED CARD OF 'halterlaw33.ProcLetters'. -/
def procLettersCard : Claim7 := { stood := { row := procLettersRow, standIns := [], harness := (true, "ab8af57975116c167f592158446d0026f1476b6e71392e4dbb2640580e03b644"), looks := true }, kinds := [], alts := [], laidByText := true, laidKinds := [.data, .data, .handle, .pinned], laidTests := true, laidLooks := .later }
def ProcLettersCardSaid : Prop := Claim7.holds Tryd.pinned (.plain (OpenSpec.ofChange procLettersSpec)) procLettersCard

/-- THE TIED CARD OF 'halterlaw33.ProcKeeps'. -/
def procKeepsCard : Claim7 := { stood := { row := procKeepsRow, standIns := [], harness := (true, "ab8af57975116c167f592158446d0026f1476b6e71392e4dbb2640580e03b644"), looks := true }, kinds := [], alts := [], laidByText := true, laidKinds := [.data, .data, .handle, .pinned], laidTests := true, laidLooks := .later }
def ProcKeepsCardSaid : Prop := Claim7.holds Tryd.pinned (.plain (OpenSpec.ofChange procKeepsSpec)) procKeepsCard

/-- THE SECOND FORM's CARD OF 'halterlaw33.ProcLetters'. -/
def procLettersUptoCard : Claim7 := { stood := { row := procLettersUptoRow, standIns := [], harness := (true, "ab8af57975116c167f592158446d0026f1476b6e71392e4dbb2640580e03b644"), looks := true }, kinds := [], alts := [], laidByText := true, laidKinds := [.data, .data, .handle, .pinned], laidTests := true, laidLooks := .later }
def ProcLettersUptoCardSaid : Prop := Claim7.holds Tryd.pinned (.plain (OpenSpec.upto procLettersSpec)) procLettersUptoCard

/-- THE SECOND FORM's CARD OF 'halterlaw33.ProcKeeps'. -/
def procKeepsUptoCard : Claim7 := { stood := { row := procKeepsUptoRow, standIns := [], harness := (true, "ab8af57975116c167f592158446d0026f1476b6e71392e4dbb2640580e03b644"), looks := true }, kinds := [], alts := [], laidByText := true, laidKinds := [.data, .data, .handle, .pinned], laidTests := true, laidLooks := .later }
def ProcKeepsUptoCardSaid : Prop := Claim7.holds Tryd.pinned (.plain (OpenSpec.upto procKeepsSpec)) procKeepsUptoCard
end Rows
end Go.Proofs.YtbnlochgbhcfnaaDoor
