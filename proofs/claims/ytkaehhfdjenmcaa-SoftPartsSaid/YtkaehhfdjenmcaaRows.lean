/-
  No cell of these rows narrows 'for every input' (looked for: loops, veiled, ifaces, maps, wideKeys, modest, calm, conditions, laid).
  DERIVED. THE GIVEN ROWS OF THIS SEAT. 6 by the template 'for every input the law returns true; each argument reads behind the call as it read before'; 0 by the template 'total and deterministic' (their statements: YtkaehhfdjenmcaaTotals.lean).
  GIVEN WITH THE SEED: the statements are not yours to turn. If you find one false, say at which input.
  Laid BY PROGRAM, IN A SANDBOX (cutbox-rows.mjs): the forced cells as the released guide's own fill.sh prints them over the translation fd2e45411601cfc8… (all of the seat's roots in one cut). By AI agents, Wed Nov 11 2026. No macro, syntax, notation, axiom, sorry.
-/
import Derived.Test.YtkaehhfdjenmcaaChecked
import GoSem.Claim
import GoSem.ClaimJoined
import GoSem.ClaimMapViews
import Derived.JoinedTies
import Derived.KernelRfl
namespace Go.Proofs.Ytkaehhfdjenmcaa
/- THE CELL 'sum', in the pinned program and in every row, IS THE sha256 OF THE DUMP (.gsa) THAT YtkaehhfdjenmcaaProg.lean LOADS. Nothing in Lean hashes anything: it is a label: what it is worth is what the hold of that sum in a sandbox is worth. -/
noncomputable def Try.pinned : Pinned := { name := "ytkaehhfdjenmcaa", sum := "fd2e45411601cfc8d0d3fd30817c12008c33edb0c7a27a7bf362ebf70927c0ee", checked := Try.checked }
namespace Rows
def none {H : Type} : Left H := { results := [], args := [] }

/-- 'halterlaw02.SoftParts': WHATEVER THE INPUT: true; the input reads as it did. -/
def softPartsSpec : ChangeSpec := { name := "softParts", fn := fun _ => fun
  | [d1, d2] => { results := [.lit (.bool true)], args := [d1, d2] }
  | _ => none }
def softPartsRow : OpenClaim := { program := "ytkaehhfdjenmcaa", sum := "fd2e45411601cfc8d0d3fd30817c12008c33edb0c7a27a7bf362ebf70927c0ee", func := "halter/halterlaw02.SoftParts", spec := "softParts", inPlace := ["math.Float64frombits", "math.Float64bits", "math.sqrt"], apart := false }
def SoftPartsSaid : Prop := softPartsRow.holds Try.pinned (OpenSpec.ofChange softPartsSpec)

/-- ITS FALSE NEIGHBOUR: 'it returns false'. Refute it at one input. -/
def softPartsWrong : ChangeSpec := { name := "softParts", fn := fun _ => fun
  | [d1, d2] => { results := [.lit (.bool false)], args := [d1, d2] }
  | _ => none }
def SoftPartsWrongFalsely : Prop := softPartsRow.holds Try.pinned (OpenSpec.ofChange softPartsWrong)

/-- 'halterlaw02.SoftSums': WHATEVER THE INPUT: true; the input reads as it did. -/
def softSumsSpec : ChangeSpec := { name := "softSums", fn := fun _ => fun
  | [d1, d2] => { results := [.lit (.bool true)], args := [d1, d2] }
  | _ => none }
def softSumsRow : OpenClaim := { program := "ytkaehhfdjenmcaa", sum := "fd2e45411601cfc8d0d3fd30817c12008c33edb0c7a27a7bf362ebf70927c0ee", func := "halter/halterlaw02.SoftSums", spec := "softSums", inPlace := ["math.Float64frombits", "math.Float64bits", "math.sqrt"], apart := false }
def SoftSumsSaid : Prop := softSumsRow.holds Try.pinned (OpenSpec.ofChange softSumsSpec)

/-- ITS FALSE NEIGHBOUR: 'it returns false'. Refute it at one input. -/
def softSumsWrong : ChangeSpec := { name := "softSums", fn := fun _ => fun
  | [d1, d2] => { results := [.lit (.bool false)], args := [d1, d2] }
  | _ => none }
def SoftSumsWrongFalsely : Prop := softSumsRow.holds Try.pinned (OpenSpec.ofChange softSumsWrong)

/-- 'halterlaw02.SoftInts': WHATEVER THE INPUT: true; the input reads as it did. -/
def softIntsSpec : ChangeSpec := { name := "softInts", fn := fun _ => fun
  | [d1, d2] => { results := [.lit (.bool true)], args := [d1, d2] }
  | _ => none }
def softIntsRow : OpenClaim := { program := "ytkaehhfdjenmcaa", sum := "fd2e45411601cfc8d0d3fd30817c12008c33edb0c7a27a7bf362ebf70927c0ee", func := "halter/halterlaw02.SoftInts", spec := "softInts", inPlace := ["math.Float64bits", "math.Float64frombits", "math.sqrt"], apart := false }
def SoftIntsSaid : Prop := softIntsRow.holds Try.pinned (OpenSpec.ofChange softIntsSpec)

/-- ITS FALSE NEIGHBOUR: 'it returns false'. Refute it at one input. -/
def softIntsWrong : ChangeSpec := { name := "softInts", fn := fun _ => fun
  | [d1, d2] => { results := [.lit (.bool false)], args := [d1, d2] }
  | _ => none }
def SoftIntsWrongFalsely : Prop := softIntsRow.holds Try.pinned (OpenSpec.ofChange softIntsWrong)

/-- 'halterlaw02.SoftEdges': WHATEVER THE INPUT: true; the input reads as it did. -/
def softEdgesSpec : ChangeSpec := { name := "softEdges", fn := fun _ => fun
  | [d1, d2] => { results := [.lit (.bool true)], args := [d1, d2] }
  | _ => none }
def softEdgesRow : OpenClaim := { program := "ytkaehhfdjenmcaa", sum := "fd2e45411601cfc8d0d3fd30817c12008c33edb0c7a27a7bf362ebf70927c0ee", func := "halter/halterlaw02.SoftEdges", spec := "softEdges", inPlace := ["math.Float64frombits", "math.Float64bits", "math.sqrt"], apart := false }
def SoftEdgesSaid : Prop := softEdgesRow.holds Try.pinned (OpenSpec.ofChange softEdgesSpec)

/-- ITS FALSE NEIGHBOUR: 'it returns false'. Refute it at one input. -/
def softEdgesWrong : ChangeSpec := { name := "softEdges", fn := fun _ => fun
  | [d1, d2] => { results := [.lit (.bool false)], args := [d1, d2] }
  | _ => none }
def SoftEdgesWrongFalsely : Prop := softEdgesRow.holds Try.pinned (OpenSpec.ofChange softEdgesWrong)

/-- 'halterlaw02.SoftOrders': WHATEVER THE INPUT: true; the input reads as it did. -/
def softOrdersSpec : ChangeSpec := { name := "softOrders", fn := fun _ => fun
  | [d1, d2, d3] => { results := [.lit (.bool true)], args := [d1, d2, d3] }
  | _ => none }
def softOrdersRow : OpenClaim := { program := "ytkaehhfdjenmcaa", sum := "fd2e45411601cfc8d0d3fd30817c12008c33edb0c7a27a7bf362ebf70927c0ee", func := "halter/halterlaw02.SoftOrders", spec := "softOrders", inPlace := ["math.Float64frombits", "math.Float64bits", "math.sqrt"], apart := false }
def SoftOrdersSaid : Prop := softOrdersRow.holds Try.pinned (OpenSpec.ofChange softOrdersSpec)

/-- ITS FALSE NEIGHBOUR: 'it returns false'. Refute it at one input. -/
def softOrdersWrong : ChangeSpec := { name := "softOrders", fn := fun _ => fun
  | [d1, d2, d3] => { results := [.lit (.bool false)], args := [d1, d2, d3] }
  | _ => none }
def SoftOrdersWrongFalsely : Prop := softOrdersRow.holds Try.pinned (OpenSpec.ofChange softOrdersWrong)

/-- 'halterlaw02.SoftLaws': WHATEVER THE INPUT: true; the input reads as it did. -/
def softLawsSpec : ChangeSpec := { name := "softLaws", fn := fun _ => fun
  | [d1, d2, d3] => { results := [.lit (.bool true)], args := [d1, d2, d3] }
  | _ => none }
def softLawsRow : OpenClaim := { program := "ytkaehhfdjenmcaa", sum := "fd2e45411601cfc8d0d3fd30817c12008c33edb0c7a27a7bf362ebf70927c0ee", func := "halter/halterlaw02.SoftLaws", spec := "softLaws", inPlace := ["math.Float64frombits", "math.Float64bits", "math.sqrt"], apart := false }
def SoftLawsSaid : Prop := softLawsRow.holds Try.pinned (OpenSpec.ofChange softLawsSpec)

/-- ITS FALSE NEIGHBOUR: 'it returns false'. Refute it at one input. -/
def softLawsWrong : ChangeSpec := { name := "softLaws", fn := fun _ => fun
  | [d1, d2, d3] => { results := [.lit (.bool false)], args := [d1, d2, d3] }
  | _ => none }
def SoftLawsWrongFalsely : Prop := softLawsRow.holds Try.pinned (OpenSpec.ofChange softLawsWrong)

/- THE SECOND FORM. 'bulk': how many values and letters a reading holds, each counted each time it is reached (what is shared counts as often as it is met; a slice's spare places count too). A statement '..UptoSaid' is the law's where the arguments, and the package variables that the reading takes, are together of bulk at most 1048576: NARROWER than '..Said'. Prove '..Said' where nothing that the law and all that it calls make is longer than what came in: it says more and counts as full. Else prove '..UptoSaid'. A law counts once. -/
mutual
def uptoBulk {H : Type} : DataW H → Nat
  | .lit (.string bytes) => bytes.length + 1
  | .lit _ => 1
  | .nil => 1
  | .ptr d => uptoBulk d + 1
  | .slice elems spare => uptoBulkAll elems + uptoBulkAll spare + 1
  | .agg parts => uptoBulkAll parts + 1
  | .iface _ d => uptoBulk d + 1
  | .map entries => uptoBulkEntries entries + 1
  | .held _ => 1
def uptoBulkAll {H : Type} : List (DataW H) → Nat
  | [] => 0
  | d :: r => uptoBulk d + uptoBulkAll r
def uptoBulkEntries {H : Type} : List (Lit × DataW H) → Nat
  | [] => 0
  | x :: r => uptoBulkEntry x + uptoBulkEntries r
def uptoBulkEntry {H : Type} : Lit × DataW H → Nat
  | (.string bytes, d) => bytes.length + uptoBulk d + 1
  | (_, d) => uptoBulk d + 1
 end
def uptoSmall : (H : Type) → List (DataW H) → Bool := fun _ ds => decide (uptoBulkAll ds ≤ 1048576)
def OpenSpec.upto (s : _root_.Go.ChangeSpec) : _root_.Go.OpenSpec := { _root_.Go.OpenSpec.ofChange s with cond := some uptoSmall }

/-- 'halterlaw02.SoftParts', WHERE WHAT IT READS IS OF BULK AT MOST 1048576: true; the input reads as it did. -/
def softPartsUptoRow : OpenClaim := { program := "ytkaehhfdjenmcaa", sum := "fd2e45411601cfc8d0d3fd30817c12008c33edb0c7a27a7bf362ebf70927c0ee", func := "halter/halterlaw02.SoftParts", spec := "softParts", inPlace := ["math.Float64frombits", "math.Float64bits", "math.sqrt"], apart := false, narrowed := true }
def SoftPartsUptoSaid : Prop := softPartsUptoRow.holds Try.pinned (OpenSpec.upto softPartsSpec)

/-- 'halterlaw02.SoftSums', WHERE WHAT IT READS IS OF BULK AT MOST 1048576: true; the input reads as it did. -/
def softSumsUptoRow : OpenClaim := { program := "ytkaehhfdjenmcaa", sum := "fd2e45411601cfc8d0d3fd30817c12008c33edb0c7a27a7bf362ebf70927c0ee", func := "halter/halterlaw02.SoftSums", spec := "softSums", inPlace := ["math.Float64frombits", "math.Float64bits", "math.sqrt"], apart := false, narrowed := true }
def SoftSumsUptoSaid : Prop := softSumsUptoRow.holds Try.pinned (OpenSpec.upto softSumsSpec)

/-- 'halterlaw02.SoftInts', WHERE WHAT IT READS IS OF BULK AT MOST 1048576: true; the input reads as it did. -/
def softIntsUptoRow : OpenClaim := { program := "ytkaehhfdjenmcaa", sum := "fd2e45411601cfc8d0d3fd30817c12008c33edb0c7a27a7bf362ebf70927c0ee", func := "halter/halterlaw02.SoftInts", spec := "softInts", inPlace := ["math.Float64bits", "math.Float64frombits", "math.sqrt"], apart := false, narrowed := true }
def SoftIntsUptoSaid : Prop := softIntsUptoRow.holds Try.pinned (OpenSpec.upto softIntsSpec)

/-- 'halterlaw02.SoftEdges', WHERE WHAT IT READS IS OF BULK AT MOST 1048576: true; the input reads as it did. -/
def softEdgesUptoRow : OpenClaim := { program := "ytkaehhfdjenmcaa", sum := "fd2e45411601cfc8d0d3fd30817c12008c33edb0c7a27a7bf362ebf70927c0ee", func := "halter/halterlaw02.SoftEdges", spec := "softEdges", inPlace := ["math.Float64frombits", "math.Float64bits", "math.sqrt"], apart := false, narrowed := true }
def SoftEdgesUptoSaid : Prop := softEdgesUptoRow.holds Try.pinned (OpenSpec.upto softEdgesSpec)

/-- 'halterlaw02.SoftOrders', WHERE WHAT IT READS IS OF BULK AT MOST 1048576: true; the input reads as it did. -/
def softOrdersUptoRow : OpenClaim := { program := "ytkaehhfdjenmcaa", sum := "fd2e45411601cfc8d0d3fd30817c12008c33edb0c7a27a7bf362ebf70927c0ee", func := "halter/halterlaw02.SoftOrders", spec := "softOrders", inPlace := ["math.Float64frombits", "math.Float64bits", "math.sqrt"], apart := false, narrowed := true }
def SoftOrdersUptoSaid : Prop := softOrdersUptoRow.holds Try.pinned (OpenSpec.upto softOrdersSpec)

/-- 'halterlaw02.SoftLaws', WHERE WHAT IT READS IS OF BULK AT MOST 1048576: true; the input reads as it did. -/
def softLawsUptoRow : OpenClaim := { program := "ytkaehhfdjenmcaa", sum := "fd2e45411601cfc8d0d3fd30817c12008c33edb0c7a27a7bf362ebf70927c0ee", func := "halter/halterlaw02.SoftLaws", spec := "softLaws", inPlace := ["math.Float64frombits", "math.Float64bits", "math.sqrt"], apart := false, narrowed := true }
def SoftLawsUptoSaid : Prop := softLawsUptoRow.holds Try.pinned (OpenSpec.upto softLawsSpec)

end Rows
end Go.Proofs.Ytkaehhfdjenmcaa
