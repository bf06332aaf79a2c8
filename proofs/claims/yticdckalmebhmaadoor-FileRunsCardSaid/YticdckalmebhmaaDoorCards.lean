/-
  DERIVED. GIVEN WITH THE SEED: THE CARDS: each row of YticdckalmebhmaaDoorRows.lean that lists a variable, with what it lists TIED to the program's text (the seventh form; the later family's looks); each row that meets fmt, with fmt's text TOLD by the authors' own Lean function (tested against real Go, not proved from fmt's source: count such statements apart). THE CARD IS WHAT COUNTS. Prove the row's statement (the work); the ties are given (YticdckalmebhmaaDoorTie.lean); close each card by the builder's one call (the guide's Derived/Test/ToyasCard.lean, 'card_holds'). Laid BY PROGRAM, IN A SANDBOX (cutbox-door.mjs). By AI agents, Wed Nov 11 2026. No macro, syntax, notation, axiom, sorry.
-/
import Derived.Test.YticdckalmebhmaaDoorRows
import GoSem.ClaimSeven
namespace Go.Proofs.YticdckalmebhmaaDoor
namespace Rows

/-- THE TIED CARD OF 'halterlaw19.FileSeeks'. -/
def fileSeeksCard : Claim7 := { stood := { row := fileSeeksRow, standIns := [], harness := (true, "62870d4f9e320535c5ca7e9928677ff629fa76fca9ea51a90b5de33baeb51795"), looks := true }, kinds := [], alts := [], laidByText := true, laidKinds := [.handle], laidTests := true, laidLooks := .later }
def FileSeeksCardSaid : Prop := Claim7.holds Tryd.pinned (.plain (OpenSpec.ofChange fileSeeksSpec)) fileSeeksCard

/-- THE TIED CARD OF 'halterlaw19.FileCounts'. -/
def fileCountsCard : Claim7 := { stood := { row := fileCountsRow, standIns := [], harness := (true, "62870d4f9e320535c5ca7e9928677ff629fa76fca9ea51a90b5de33baeb51795"), looks := true }, kinds := [], alts := [], laidByText := true, laidKinds := [.handle], laidTests := true, laidLooks := .later }
def FileCountsCardSaid : Prop := Claim7.holds Tryd.pinned (.plain (OpenSpec.ofChange fileCountsSpec)) fileCountsCard

/-- THE TIED CARD OF 'halterlaw19.FileRuns'. -/
def fileRunsCard : Claim7 := { stood := { row := fileRunsRow, standIns := [], harness := (true, "62870d4f9e320535c5ca7e9928677ff629fa76fca9ea51a90b5de33baeb51795"), looks := true }, kinds := [], alts := [], laidByText := true, laidKinds := [.handle], laidTests := true, laidLooks := .later }
def FileRunsCardSaid : Prop := Claim7.holds Tryd.pinned (.plain (OpenSpec.ofChange fileRunsSpec)) fileRunsCard

/-- THE SECOND FORM's CARD OF 'halterlaw19.FileSeeks'. -/
def fileSeeksUptoCard : Claim7 := { stood := { row := fileSeeksUptoRow, standIns := [], harness := (true, "62870d4f9e320535c5ca7e9928677ff629fa76fca9ea51a90b5de33baeb51795"), looks := true }, kinds := [], alts := [], laidByText := true, laidKinds := [.handle], laidTests := true, laidLooks := .later }
def FileSeeksUptoCardSaid : Prop := Claim7.holds Tryd.pinned (.plain (OpenSpec.upto fileSeeksSpec)) fileSeeksUptoCard

/-- THE SECOND FORM's CARD OF 'halterlaw19.FileCounts'. -/
def fileCountsUptoCard : Claim7 := { stood := { row := fileCountsUptoRow, standIns := [], harness := (true, "62870d4f9e320535c5ca7e9928677ff629fa76fca9ea51a90b5de33baeb51795"), looks := true }, kinds := [], alts := [], laidByText := true, laidKinds := [.handle], laidTests := true, laidLooks := .later }
def FileCountsUptoCardSaid : Prop := Claim7.holds Tryd.pinned (.plain (OpenSpec.upto fileCountsSpec)) fileCountsUptoCard

/-- THE SECOND FORM's CARD OF 'halterlaw19.FileRuns'. -/
def fileRunsUptoCard : Claim7 := { stood := { row := fileRunsUptoRow, standIns := [], harness := (true, "62870d4f9e320535c5ca7e9928677ff629fa76fca9ea51a90b5de33baeb51795"), looks := true }, kinds := [], alts := [], laidByText := true, laidKinds := [.handle], laidTests := true, laidLooks := .later }
def FileRunsUptoCardSaid : Prop := Claim7.holds Tryd.pinned (.plain (OpenSpec.upto fileRunsSpec)) fileRunsUptoCard
end Rows
end Go.Proofs.YticdckalmebhmaaDoor
