/-
  DERIVED. GIVEN WITH THE SEED: THE CARDS: each row of YthoilcjnnifenaaDoorRows.lean that lists a variable, with what it lists TIED to the program's text (the seventh form; the later family's looks); each row that meets fmt, with fmt's text TOLD by the authors' own Lean function (tested against real Go, not proved from fmt's source: count such statements apart). THE CARD IS WHAT COUNTS. Prove the row's statement (the work); the ties are given (YthoilcjnnifenaaDoorTie.lean); close each card by the builder's one call (the guide's Derived/Test/ToyasCard.lean, 'card_holds'). Laid BY PROGRAM, IN A SANDBOX (cutbox-door.mjs). By AI agents, Wed Nov 11 2026. No macro, syntax, notation, axiom, sorry.
-/
import Derived.Test.YthoilcjnnifenaaDoorRows
import GoSem.ClaimSeven
namespace Go.Proofs.YthoilcjnnifenaaDoor
namespace Rows

/-- THE TIED CARD OF 'halterlaw04.FramesRun'. -/
def framesRunCard : Claim7 := { stood := { row := framesRunRow, standIns := [], harness := (true, "100e4c7da3af498487f1a6da07000f463f7c05236fdfe56d7f6fa61c9d6e1efd"), looks := true }, kinds := [], alts := [], laidByText := true, laidKinds := [.handle], laidTests := true, laidLooks := .later }
def FramesRunCardSaid : Prop := Claim7.holds Tryd.pinned (.plain (OpenSpec.ofChange framesRunSpec)) framesRunCard

/-- THE TIED CARD OF 'halterlaw04.FramesCount'. -/
def framesCountCard : Claim7 := { stood := { row := framesCountRow, standIns := [], harness := (true, "100e4c7da3af498487f1a6da07000f463f7c05236fdfe56d7f6fa61c9d6e1efd"), looks := true }, kinds := [], alts := [], laidByText := true, laidKinds := [.handle], laidTests := true, laidLooks := .later }
def FramesCountCardSaid : Prop := Claim7.holds Tryd.pinned (.plain (OpenSpec.ofChange framesCountSpec)) framesCountCard

/-- THE TIED CARD OF 'halterlaw04.FramesAgain'. -/
def framesAgainCard : Claim7 := { stood := { row := framesAgainRow, standIns := [], harness := (true, "100e4c7da3af498487f1a6da07000f463f7c05236fdfe56d7f6fa61c9d6e1efd"), looks := true }, kinds := [], alts := [], laidByText := true, laidKinds := [.handle], laidTests := true, laidLooks := .later }
def FramesAgainCardSaid : Prop := Claim7.holds Tryd.pinned (.plain (OpenSpec.ofChange framesAgainSpec)) framesAgainCard

/-- THE SECOND FORM's CARD OF 'halterlaw04.FramesRun'. -/
def framesRunUptoCard : Claim7 := { stood := { row := framesRunUptoRow, standIns := [], harness := (true, "100e4c7da3af498487f1a6da07000f463f7c05236fdfe56d7f6fa61c9d6e1efd"), looks := true }, kinds := [], alts := [], laidByText := true, laidKinds := [.handle], laidTests := true, laidLooks := .later }
def FramesRunUptoCardSaid : Prop := Claim7.holds Tryd.pinned (.plain (OpenSpec.upto framesRunSpec)) framesRunUptoCard

/-- THE SECOND FORM's CARD OF 'halterlaw04.FramesCount'. -/
def framesCountUptoCard : Claim7 := { stood := { row := framesCountUptoRow, standIns := [], harness := (true, "100e4c7da3af498487f1a6da07000f463f7c05236fdfe56d7f6fa61c9d6e1efd"), looks := true }, kinds := [], alts := [], laidByText := true, laidKinds := [.handle], laidTests := true, laidLooks := .later }
def FramesCountUptoCardSaid : Prop := Claim7.holds Tryd.pinned (.plain (OpenSpec.upto framesCountSpec)) framesCountUptoCard

/-- THE SECOND FORM's CARD OF 'halterlaw04.FramesAgain'. -/
def framesAgainUptoCard : Claim7 := { stood := { row := framesAgainUptoRow, standIns := [], harness := (true, "100e4c7da3af498487f1a6da07000f463f7c05236fdfe56d7f6fa61c9d6e1efd"), looks := true }, kinds := [], alts := [], laidByText := true, laidKinds := [.handle], laidTests := true, laidLooks := .later }
def FramesAgainUptoCardSaid : Prop := Claim7.holds Tryd.pinned (.plain (OpenSpec.upto framesAgainSpec)) framesAgainUptoCard
end Rows
end Go.Proofs.YthoilcjnnifenaaDoor
