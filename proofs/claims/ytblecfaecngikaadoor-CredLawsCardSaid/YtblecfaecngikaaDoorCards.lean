/-
  DERIVED. GIVEN WITH THE SEED: THE CARDS: each row of YtblecfaecngikaaDoorRows.lean that lists a variable, with what it lists TIED to the program's text (the seventh form; the later family's looks); each row that meets fmt, with fmt's text TOLD by the authors' own Lean function (tested against real Go, not proved from fmt's source: count such statements apart). THE CARD IS WHAT COUNTS. Prove the row's statement (the work); the ties are given (YtblecfaecngikaaDoorTie.lean); close each card by the builder's one call (the guide's Derived/Test/ToyasCard.lean, 'card_holds'). Laid BY PROGRAM, IN A SANDBOX (cutbox-door.mjs). By AI agents, Wed Nov 11 2026. No macro, syntax, notation, axiom, sorry.
-/
import Derived.Test.YtblecfaecngikaaDoorRows
import GoSem.ClaimSeven
namespace Go.Proofs.YtblecfaecngikaaDoor
namespace Rows

/-- THE TIED CARD OF 'halterlaw22.CredAsks'. -/
def credAsksCard : Claim7 := { stood := { row := credAsksRow, standIns := [], harness := (true, "7bcc009ef0691615f29c25fc816bbe5ad961ea038ac7963c1e6c765c2de5fb05"), looks := true }, kinds := [], alts := [], laidByText := true, laidKinds := [.handle], laidTests := true, laidLooks := .later }
def CredAsksCardSaid : Prop := Claim7.holds Tryd.pinned (.plain (OpenSpec.ofChange credAsksSpec)) credAsksCard

/-- THE TIED CARD OF 'halterlaw22.CredLaws'. -/
def credLawsCard : Claim7 := { stood := { row := credLawsRow, standIns := [], harness := (true, "7bcc009ef0691615f29c25fc816bbe5ad961ea038ac7963c1e6c765c2de5fb05"), looks := true }, kinds := [], alts := [], laidByText := true, laidKinds := [.handle], laidTests := true, laidLooks := .later }
def CredLawsCardSaid : Prop := Claim7.holds Tryd.pinned (.plain (OpenSpec.ofChange credLawsSpec)) credLawsCard

/-- THE SECOND FORM's CARD OF 'halterlaw22.CredAsks'. -/
def credAsksUptoCard : Claim7 := { stood := { row := credAsksUptoRow, standIns := [], harness := (true, "7bcc009ef0691615f29c25fc816bbe5ad961ea038ac7963c1e6c765c2de5fb05"), looks := true }, kinds := [], alts := [], laidByText := true, laidKinds := [.handle], laidTests := true, laidLooks := .later }
def CredAsksUptoCardSaid : Prop := Claim7.holds Tryd.pinned (.plain (OpenSpec.upto credAsksSpec)) credAsksUptoCard

/-- THE SECOND FORM's CARD OF 'halterlaw22.CredLaws'. -/
def credLawsUptoCard : Claim7 := { stood := { row := credLawsUptoRow, standIns := [], harness := (true, "7bcc009ef0691615f29c25fc816bbe5ad961ea038ac7963c1e6c765c2de5fb05"), looks := true }, kinds := [], alts := [], laidByText := true, laidKinds := [.handle], laidTests := true, laidLooks := .later }
def CredLawsUptoCardSaid : Prop := Claim7.holds Tryd.pinned (.plain (OpenSpec.upto credLawsSpec)) credLawsUptoCard
end Rows
end Go.Proofs.YtblecfaecngikaaDoor
