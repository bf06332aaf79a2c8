/-
  DERIVED. GIVEN WITH THE SEED: THE CARDS: each row of YtlaemcglemakjaaDoorRows.lean that lists a variable, with what it lists TIED to the program's text (the seventh form; the later family's looks); each row that meets fmt, with fmt's text TOLD by the authors' own Lean function (tested against real Go, not proved from fmt's source: count such statements apart). THE CARD IS WHAT COUNTS. Prove the row's statement (the work); the ties are given (YtlaemcglemakjaaDoorTie.lean); close each card by the builder's one call (the guide's Derived/Test/ToyasCard.lean, 'card_holds'). Laid BY PROGRAM, IN A SANDBOX (cutbox-door.mjs). By AI agents, Wed Nov 11 2026. No macro, syntax, notation, axiom, sorry.
-/
import Derived.Test.YtlaemcglemakjaaDoorRows
import GoSem.ClaimSeven
namespace Go.Proofs.YtlaemcglemakjaaDoor
namespace Rows

/-- THE TIED CARD OF 'halterlaw27.TraceSteps'. -/
def traceStepsCard : Claim7 := { stood := { row := traceStepsRow, standIns := [], harness := (true, "46142a4d3074463d4c1ea23011acda39b5f742c02b38d41dd3709f421acbf46c"), looks := true }, kinds := [], alts := [], laidByText := true, laidKinds := [.handle], laidTests := true, laidLooks := .later }
def TraceStepsCardSaid : Prop := Claim7.holds Tryd.pinned (.plain (OpenSpec.ofChange traceStepsSpec)) traceStepsCard

/-- THE TIED CARD OF 'halterlaw27.TraceOnce'. -/
def traceOnceCard : Claim7 := { stood := { row := traceOnceRow, standIns := [], harness := (true, "46142a4d3074463d4c1ea23011acda39b5f742c02b38d41dd3709f421acbf46c"), looks := true }, kinds := [], alts := [], laidByText := true, laidKinds := [.handle], laidTests := true, laidLooks := .later }
def TraceOnceCardSaid : Prop := Claim7.holds Tryd.pinned (.plain (OpenSpec.ofChange traceOnceSpec)) traceOnceCard

/-- THE TIED CARD OF 'halterlaw27.TraceModes'. -/
def traceModesCard : Claim7 := { stood := { row := traceModesRow, standIns := [], harness := (true, "46142a4d3074463d4c1ea23011acda39b5f742c02b38d41dd3709f421acbf46c"), looks := true }, kinds := [], alts := [], laidByText := true, laidKinds := [.handle], laidTests := true, laidLooks := .later }
def TraceModesCardSaid : Prop := Claim7.holds Tryd.pinned (.plain (OpenSpec.ofChange traceModesSpec)) traceModesCard

/-- THE SECOND FORM's CARD OF 'halterlaw27.TraceSteps'. -/
def traceStepsUptoCard : Claim7 := { stood := { row := traceStepsUptoRow, standIns := [], harness := (true, "46142a4d3074463d4c1ea23011acda39b5f742c02b38d41dd3709f421acbf46c"), looks := true }, kinds := [], alts := [], laidByText := true, laidKinds := [.handle], laidTests := true, laidLooks := .later }
def TraceStepsUptoCardSaid : Prop := Claim7.holds Tryd.pinned (.plain (OpenSpec.upto traceStepsSpec)) traceStepsUptoCard

/-- THE SECOND FORM's CARD OF 'halterlaw27.TraceOnce'. -/
def traceOnceUptoCard : Claim7 := { stood := { row := traceOnceUptoRow, standIns := [], harness := (true, "46142a4d3074463d4c1ea23011acda39b5f742c02b38d41dd3709f421acbf46c"), looks := true }, kinds := [], alts := [], laidByText := true, laidKinds := [.handle], laidTests := true, laidLooks := .later }
def TraceOnceUptoCardSaid : Prop := Claim7.holds Tryd.pinned (.plain (OpenSpec.upto traceOnceSpec)) traceOnceUptoCard

/-- THE SECOND FORM's CARD OF 'halterlaw27.TraceModes'. -/
def traceModesUptoCard : Claim7 := { stood := { row := traceModesUptoRow, standIns := [], harness := (true, "46142a4d3074463d4c1ea23011acda39b5f742c02b38d41dd3709f421acbf46c"), looks := true }, kinds := [], alts := [], laidByText := true, laidKinds := [.handle], laidTests := true, laidLooks := .later }
def TraceModesUptoCardSaid : Prop := Claim7.holds Tryd.pinned (.plain (OpenSpec.upto traceModesSpec)) traceModesUptoCard
end Rows
end Go.Proofs.YtlaemcglemakjaaDoor
