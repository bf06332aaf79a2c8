/-
  No cell of these rows narrows 'for every input' (looked for: loops, veiled, ifaces, maps, wideKeys, modest, calm, conditions, laid).
  DERIVED. THE GIVEN ROWS OF THIS SEAT. 5 by the template 'for every input the law returns true; each argument reads behind the call as it read before'; 0 by the template 'total and deterministic' (their statements: YtgomfkjdffcbhaaTotals.lean).
  GIVEN WITH THE SEED: the statements are not yours to turn. If you find one false, say at which input.
  Laid BY PROGRAM, IN A SANDBOX (cutbox-rows.mjs): the forced cells as the released guide's own fill.sh prints them over the translation cad697dad99c33aa… (all of the seat's roots in one cut). By AI agents, Wed Nov 11 2026. No macro, syntax, notation, axiom, sorry.
-/
import Derived.Test.YtgomfkjdffcbhaaChecked
import GoSem.Claim
import GoSem.ClaimJoined
import GoSem.ClaimMapViews
import Derived.JoinedTies
import Derived.KernelRfl
namespace Go.Proofs.Ytgomfkjdffcbhaa
/- THE CELL 'sum', in the pinned program and in every row, IS THE sha256 OF THE DUMP (.gsa) THAT YtgomfkjdffcbhaaProg.lean LOADS. Nothing in Lean hashes anything: it is a label: what it is worth is what the hold of that sum in a sandbox is worth. -/
noncomputable def Try.pinned : Pinned := { name := "ytgomfkjdffcbhaa", sum := "cad697dad99c33aa70f2cf6a55e5daf7b52a7a4b4773c5fa59a43d09a1025535", checked := Try.checked }
namespace Rows
def none {H : Type} : Left H := { results := [], args := [] }

/-- 'halterlaw01.WordShifts': WHATEVER THE INPUT: true; the input reads as it did. -/
def wordShiftsSpec : ChangeSpec := { name := "wordShifts", fn := fun _ => fun
  | [d1, d2, d3] => { results := [.lit (.bool true)], args := [d1, d2, d3] }
  | _ => none }
def wordShiftsRow : OpenClaim := { program := "ytgomfkjdffcbhaa", sum := "cad697dad99c33aa70f2cf6a55e5daf7b52a7a4b4773c5fa59a43d09a1025535", func := "halter/halterlaw01.WordShifts", spec := "wordShifts", apart := false }
def WordShiftsSaid : Prop := wordShiftsRow.holds Try.pinned (OpenSpec.ofChange wordShiftsSpec)

/-- ITS FALSE NEIGHBOUR: 'it returns false'. Refute it at one input. -/
def wordShiftsWrong : ChangeSpec := { name := "wordShifts", fn := fun _ => fun
  | [d1, d2, d3] => { results := [.lit (.bool false)], args := [d1, d2, d3] }
  | _ => none }
def WordShiftsWrongFalsely : Prop := wordShiftsRow.holds Try.pinned (OpenSpec.ofChange wordShiftsWrong)

/-- 'halterlaw01.WordSpreads': WHATEVER THE INPUT: true; the input reads as it did. -/
def wordSpreadsSpec : ChangeSpec := { name := "wordSpreads", fn := fun _ => fun
  | [d1, d2] => { results := [.lit (.bool true)], args := [d1, d2] }
  | _ => none }
def wordSpreadsRow : OpenClaim := { program := "ytgomfkjdffcbhaa", sum := "cad697dad99c33aa70f2cf6a55e5daf7b52a7a4b4773c5fa59a43d09a1025535", func := "halter/halterlaw01.WordSpreads", spec := "wordSpreads", apart := false }
def WordSpreadsSaid : Prop := wordSpreadsRow.holds Try.pinned (OpenSpec.ofChange wordSpreadsSpec)

/-- ITS FALSE NEIGHBOUR: 'it returns false'. Refute it at one input. -/
def wordSpreadsWrong : ChangeSpec := { name := "wordSpreads", fn := fun _ => fun
  | [d1, d2] => { results := [.lit (.bool false)], args := [d1, d2] }
  | _ => none }
def WordSpreadsWrongFalsely : Prop := wordSpreadsRow.holds Try.pinned (OpenSpec.ofChange wordSpreadsWrong)

/-- 'halterlaw01.WordSums': WHATEVER THE INPUT: true; the input reads as it did. -/
def wordSumsSpec : ChangeSpec := { name := "wordSums", fn := fun _ => fun
  | [d1, d2, d3] => { results := [.lit (.bool true)], args := [d1, d2, d3] }
  | _ => none }
def wordSumsRow : OpenClaim := { program := "ytgomfkjdffcbhaa", sum := "cad697dad99c33aa70f2cf6a55e5daf7b52a7a4b4773c5fa59a43d09a1025535", func := "halter/halterlaw01.WordSums", spec := "wordSums", apart := false }
def WordSumsSaid : Prop := wordSumsRow.holds Try.pinned (OpenSpec.ofChange wordSumsSpec)

/-- ITS FALSE NEIGHBOUR: 'it returns false'. Refute it at one input. -/
def wordSumsWrong : ChangeSpec := { name := "wordSums", fn := fun _ => fun
  | [d1, d2, d3] => { results := [.lit (.bool false)], args := [d1, d2, d3] }
  | _ => none }
def WordSumsWrongFalsely : Prop := wordSumsRow.holds Try.pinned (OpenSpec.ofChange wordSumsWrong)

/-- 'halterlaw01.WordSwaps': WHATEVER THE INPUT: true; the input reads as it did. -/
def wordSwapsSpec : ChangeSpec := { name := "wordSwaps", fn := fun _ => fun
  | [d1, d2, d3] => { results := [.lit (.bool true)], args := [d1, d2, d3] }
  | _ => none }
def wordSwapsRow : OpenClaim := { program := "ytgomfkjdffcbhaa", sum := "cad697dad99c33aa70f2cf6a55e5daf7b52a7a4b4773c5fa59a43d09a1025535", func := "halter/halterlaw01.WordSwaps", spec := "wordSwaps", apart := false }
def WordSwapsSaid : Prop := wordSwapsRow.holds Try.pinned (OpenSpec.ofChange wordSwapsSpec)

/-- ITS FALSE NEIGHBOUR: 'it returns false'. Refute it at one input. -/
def wordSwapsWrong : ChangeSpec := { name := "wordSwaps", fn := fun _ => fun
  | [d1, d2, d3] => { results := [.lit (.bool false)], args := [d1, d2, d3] }
  | _ => none }
def WordSwapsWrongFalsely : Prop := wordSwapsRow.holds Try.pinned (OpenSpec.ofChange wordSwapsWrong)

/-- 'halterlaw01.WordLaws': WHATEVER THE INPUT: true; the input reads as it did. -/
def wordLawsSpec : ChangeSpec := { name := "wordLaws", fn := fun _ => fun
  | [d1, d2, d3] => { results := [.lit (.bool true)], args := [d1, d2, d3] }
  | _ => none }
def wordLawsRow : OpenClaim := { program := "ytgomfkjdffcbhaa", sum := "cad697dad99c33aa70f2cf6a55e5daf7b52a7a4b4773c5fa59a43d09a1025535", func := "halter/halterlaw01.WordLaws", spec := "wordLaws", apart := false }
def WordLawsSaid : Prop := wordLawsRow.holds Try.pinned (OpenSpec.ofChange wordLawsSpec)

/-- ITS FALSE NEIGHBOUR: 'it returns false'. Refute it at one input. -/
def wordLawsWrong : ChangeSpec := { name := "wordLaws", fn := fun _ => fun
  | [d1, d2, d3] => { results := [.lit (.bool false)], args := [d1, d2, d3] }
  | _ => none }
def WordLawsWrongFalsely : Prop := wordLawsRow.holds Try.pinned (OpenSpec.ofChange wordLawsWrong)

/- THE SECOND FORM. 'bulk': how many values and letters a reading holds, each counted each time it is reached (what is shared counts as often as it is met; a slice's spare places count too). A statement '..UptoSaid' is the law's where the arguments, and the package variables that the reading takes, are together of bulk at most 1048576: NARROWER than '..Said'. Prove '..Said' where nothing that the law and all that it calls make is longer than what came in: it says more and counts as full. Else prove '..UptoSaid'. A law counts once. -/
mutual
def uptoBulk {H : Type} : DataW H → Nat
  | .lit (.string bytes) => bytes.length + 1
  | .lit _ => 1
  | .nil => 1
  | .ptr d => uptoBulk d + 1
  | .slice elems spare => uptoBulkAll elems + uptoBulkAll spare + 1
  | .agg parts => uptoBulkAll parts + 1
  | .iface _ d => uptoBulk d + 1
  | .map entries => uptoBulkEntries entries + 1
  | .held _ => 1
def uptoBulkAll {H : Type} : List (DataW H) → Nat
  | [] => 0
  | d :: r => uptoBulk d + uptoBulkAll r
def uptoBulkEntries {H : Type} : List (Lit × DataW H) → Nat
  | [] => 0
  | x :: r => uptoBulkEntry x + uptoBulkEntries r
def uptoBulkEntry {H : Type} : Lit × DataW H → Nat
  | (.string bytes, d) => bytes.length + uptoBulk d + 1
  | (_, d) => uptoBulk d + 1
 end
def uptoSmall : (H : Type) → List (DataW H) → Bool := fun _ ds => decide (uptoBulkAll ds ≤ 1048576)
def OpenSpec.upto (s : _root_.Go.ChangeSpec) : _root_.Go.OpenSpec := { _root_.Go.OpenSpec.ofChange s with cond := some uptoSmall }

/-- 'halterlaw01.WordShifts', WHERE WHAT IT READS IS OF BULK AT MOST 1048576: true; the input reads as it did. -/
def wordShiftsUptoRow : OpenClaim := { program := "ytgomfkjdffcbhaa", sum := "cad697dad99c33aa70f2cf6a55e5daf7b52a7a4b4773c5fa59a43d09a1025535", func := "halter/halterlaw01.WordShifts", spec := "wordShifts", apart := false, narrowed := true }
def WordShiftsUptoSaid : Prop := wordShiftsUptoRow.holds Try.pinned (OpenSpec.upto wordShiftsSpec)

/-- 'halterlaw01.WordSpreads', WHERE WHAT IT READS IS OF BULK AT MOST 1048576: true; the input reads as it did. -/
def wordSpreadsUptoRow : OpenClaim := { program := "ytgomfkjdffcbhaa", sum := "cad697dad99c33aa70f2cf6a55e5daf7b52a7a4b4773c5fa59a43d09a1025535", func := "halter/halterlaw01.WordSpreads", spec := "wordSpreads", apart := false, narrowed := true }
def WordSpreadsUptoSaid : Prop := wordSpreadsUptoRow.holds Try.pinned (OpenSpec.upto wordSpreadsSpec)

/-- 'halterlaw01.WordSums', WHERE WHAT IT READS IS OF BULK AT MOST 1048576: true; the input reads as it did. -/
def wordSumsUptoRow : OpenClaim := { program := "ytgomfkjdffcbhaa", sum := "cad697dad99c33aa70f2cf6a55e5daf7b52a7a4b4773c5fa59a43d09a1025535", func := "halter/halterlaw01.WordSums", spec := "wordSums", apart := false, narrowed := true }
def WordSumsUptoSaid : Prop := wordSumsUptoRow.holds Try.pinned (OpenSpec.upto wordSumsSpec)

/-- 'halterlaw01.WordSwaps', WHERE WHAT IT READS IS OF BULK AT MOST 1048576: true; the input reads as it did. -/
def wordSwapsUptoRow : OpenClaim := { program := "ytgomfkjdffcbhaa", sum := "cad697dad99c33aa70f2cf6a55e5daf7b52a7a4b4773c5fa59a43d09a1025535", func := "halter/halterlaw01.WordSwaps", spec := "wordSwaps", apart := false, narrowed := true }
def WordSwapsUptoSaid : Prop := wordSwapsUptoRow.holds Try.pinned (OpenSpec.upto wordSwapsSpec)

/-- 'halterlaw01.WordLaws', WHERE WHAT IT READS IS OF BULK AT MOST 1048576: true; the input reads as it did. -/
def wordLawsUptoRow : OpenClaim := { program := "ytgomfkjdffcbhaa", sum := "cad697dad99c33aa70f2cf6a55e5daf7b52a7a4b4773c5fa59a43d09a1025535", func := "halter/halterlaw01.WordLaws", spec := "wordLaws", apart := false, narrowed := true }
def WordLawsUptoSaid : Prop := wordLawsUptoRow.holds Try.pinned (OpenSpec.upto wordLawsSpec)

end Rows
end Go.Proofs.Ytgomfkjdffcbhaa
