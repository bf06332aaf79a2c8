/-
  DERIVED. GIVEN WITH THE SEED: THE CARDS: each row of YtccahdgnckilfaaDoorRows.lean that lists a variable, with what it lists TIED to the program's text (the seventh form; the later family's looks); each row that meets fmt, with fmt's text TOLD by the authors' own Lean function (tested against real Go, not proved from fmt's source: count such statements apart). THE CARD IS WHAT COUNTS. Prove the row's statement (the work); the ties are given (YtccahdgnckilfaaDoorTie.lean); close each card by the builder's one call (the guide's Derived/Test/ToyasCard.lean, 'card_holds'). Laid BY PROGRAM, IN A SANDBOX (cutbox-door.mjs). By AI agents, Wed Nov 11 2026. No macro, syntax, notation, axiom, sorry.
-/
import Derived.Test.YtccahdgnckilfaaDoorRows
import GoSem.ClaimSeven
namespace Go.Proofs.YtccahdgnckilfaaDoor
namespace Rows

/-- THE TIED CARD OF 'halterlaw23.PidsNext'. -/
def pidsNextCard : Claim7 := { stood := { row := pidsNextRow, standIns := [], harness := (true, "639011ed04361b997584f81913d39cc5b3a74056dc8ab1c15921fe146feb60bf"), looks := true }, kinds := [], alts := [], laidByText := true, laidKinds := [.handle], laidTests := true, laidLooks := .later }
def PidsNextCardSaid : Prop := Claim7.holds Tryd.pinned (.plain (OpenSpec.ofChange pidsNextSpec)) pidsNextCard

/-- THE TIED CARD OF 'halterlaw23.PidsTurn'. -/
def pidsTurnCard : Claim7 := { stood := { row := pidsTurnRow, standIns := [], harness := (true, "639011ed04361b997584f81913d39cc5b3a74056dc8ab1c15921fe146feb60bf"), looks := true }, kinds := [], alts := [], laidByText := true, laidKinds := [.handle], laidTests := true, laidLooks := .later }
def PidsTurnCardSaid : Prop := Claim7.holds Tryd.pinned (.plain (OpenSpec.ofChange pidsTurnSpec)) pidsTurnCard

/-- THE SECOND FORM's CARD OF 'halterlaw23.PidsNext'. -/
def pidsNextUptoCard : Claim7 := { stood := { row := pidsNextUptoRow, standIns := [], harness := (true, "639011ed04361b997584f81913d39cc5b3a74056dc8ab1c15921fe146feb60bf"), looks := true }, kinds := [], alts := [], laidByText := true, laidKinds := [.handle], laidTests := true, laidLooks := .later }
def PidsNextUptoCardSaid : Prop := Claim7.holds Tryd.pinned (.plain (OpenSpec.upto pidsNextSpec)) pidsNextUptoCard

/-- THE SECOND FORM's CARD OF 'halterlaw23.PidsTurn'. -/
def pidsTurnUptoCard : Claim7 := { stood := { row := pidsTurnUptoRow, standIns := [], harness := (true, "639011ed04361b997584f81913d39cc5b3a74056dc8ab1c15921fe146feb60bf"), looks := true }, kinds := [], alts := [], laidByText := true, laidKinds := [.handle], laidTests := true, laidLooks := .later }
def PidsTurnUptoCardSaid : Prop := Claim7.holds Tryd.pinned (.plain (OpenSpec.upto pidsTurnSpec)) pidsTurnUptoCard
end Rows
end Go.Proofs.YtccahdgnckilfaaDoor
