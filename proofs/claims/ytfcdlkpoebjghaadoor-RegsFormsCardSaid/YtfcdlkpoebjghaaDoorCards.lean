/-
  DERIVED. GIVEN WITH THE SEED: THE CARDS: each row of YtfcdlkpoebjghaaDoorRows.lean that lists a variable, with what it lists TIED to the program's text (the seventh form; the later family's looks); each row that meets fmt, with fmt's text TOLD by the authors' own Lean function (tested against real Go, not proved from fmt's source: count such statements apart). THE CARD IS WHAT COUNTS. Prove the row's statement (the work); the ties are given (YtfcdlkpoebjghaaDoorTie.lean); close each card by the builder's one call (the guide's Derived/Test/ToyasCard.lean, 'card_holds'). Laid BY PROGRAM, IN A SANDBOX (cutbox-door.mjs). By AI agents, Wed Nov 11 2026. No macro, syntax, notation, axiom, sorry.
-/
import Derived.Test.YtfcdlkpoebjghaaDoorRows
import GoSem.ClaimSeven
namespace Go.Proofs.YtfcdlkpoebjghaaDoor
namespace Rows

/-- THE TIED CARD OF 'halterlaw10.RegsSets'. -/
def regsSetsCard : Claim7 := { stood := { row := regsSetsRow, standIns := [], harness := (true, "766d1f6710a88ebea185052007caa60145c5ceaaacf1873e7c2262db4cb27378"), looks := true }, kinds := [], alts := [], laidByText := true, laidKinds := [.handle], laidTests := true, laidLooks := .later }
def RegsSetsCardSaid : Prop := Claim7.holds Tryd.pinned (.plain (OpenSpec.ofChange regsSetsSpec)) regsSetsCard

/-- THE TIED CARD OF 'halterlaw10.RegsForms'. -/
def regsFormsCard : Claim7 := { stood := { row := regsFormsRow, standIns := [], harness := (true, "766d1f6710a88ebea185052007caa60145c5ceaaacf1873e7c2262db4cb27378"), looks := true }, kinds := [], alts := [], laidByText := true, laidKinds := [.handle], laidTests := true, laidLooks := .later }
def RegsFormsCardSaid : Prop := Claim7.holds Tryd.pinned (.plain (OpenSpec.ofChange regsFormsSpec)) regsFormsCard

/-- THE SECOND FORM's CARD OF 'halterlaw10.RegsSets'. -/
def regsSetsUptoCard : Claim7 := { stood := { row := regsSetsUptoRow, standIns := [], harness := (true, "766d1f6710a88ebea185052007caa60145c5ceaaacf1873e7c2262db4cb27378"), looks := true }, kinds := [], alts := [], laidByText := true, laidKinds := [.handle], laidTests := true, laidLooks := .later }
def RegsSetsUptoCardSaid : Prop := Claim7.holds Tryd.pinned (.plain (OpenSpec.upto regsSetsSpec)) regsSetsUptoCard

/-- THE SECOND FORM's CARD OF 'halterlaw10.RegsForms'. -/
def regsFormsUptoCard : Claim7 := { stood := { row := regsFormsUptoRow, standIns := [], harness := (true, "766d1f6710a88ebea185052007caa60145c5ceaaacf1873e7c2262db4cb27378"), looks := true }, kinds := [], alts := [], laidByText := true, laidKinds := [.handle], laidTests := true, laidLooks := .later }
def RegsFormsUptoCardSaid : Prop := Claim7.holds Tryd.pinned (.plain (OpenSpec.upto regsFormsSpec)) regsFormsUptoCard
end Rows
end Go.Proofs.YtfcdlkpoebjghaaDoor
