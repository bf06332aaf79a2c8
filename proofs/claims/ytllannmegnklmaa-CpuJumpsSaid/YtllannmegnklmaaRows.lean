/-
  No cell of these rows narrows 'for every input' (looked for: loops, veiled, ifaces, maps, wideKeys, modest, calm, conditions, laid).
  DERIVED. THE GIVEN ROWS OF THIS SEAT. 3 by the template 'for every input the law returns true; each argument reads behind the call as it read before'; 0 by the template 'total and deterministic' (their statements: YtllannmegnklmaaTotals.lean).
  GIVEN WITH THE SEED: the statements are not yours to turn. If you find one false, say at which input.
  Laid BY PROGRAM, IN A SANDBOX (cutbox-rows.mjs): the forced cells as the released guide's own fill.sh prints them over the translation b16c24e95d980b04… (all of the seat's roots in one cut). By AI agents, Wed Nov 11 2026. No macro, syntax, notation, axiom, sorry.
-/
import Derived.Test.YtllannmegnklmaaChecked
import GoSem.Claim
import GoSem.ClaimJoined
import GoSem.ClaimMapViews
import Derived.JoinedTies
import Derived.KernelRfl
namespace Go.Proofs.Ytllannmegnklmaa
/- THE CELL 'sum', in the pinned program and in every row, IS THE sha256 OF THE DUMP (.gsa) THAT YtllannmegnklmaaProg.lean LOADS. Nothing in Lean hashes anything: it is a label: what it is worth is what the hold of that sum in a sandbox is worth. -/
noncomputable def Try.pinned : Pinned := { name := "ytllannmegnklmaa", sum := "b16c24e95d980b04e82d21bd7c42da3b7099370e66b5e03cd729a7f40cba5d09", checked := Try.checked }
namespace Rows
def none {H : Type} : Left H := { results := [], args := [] }

/-- 'halterlaw12.CpuFails': WHATEVER THE INPUT: true; the input reads as it did. -/
def cpuFailsSpec : ChangeSpec := { name := "cpuFails", fn := fun _ => fun
  | [d1, d2] => { results := [.lit (.bool true)], args := [d1, d2] }
  | _ => none }
def cpuFailsRow : OpenClaim := { program := "ytllannmegnklmaa", sum := "b16c24e95d980b04e82d21bd7c42da3b7099370e66b5e03cd729a7f40cba5d09", func := "halter/halterlaw12.CpuFails", spec := "cpuFails", inPlace := ["internal/reflectlite.TypeOf", "math.Float64frombits", "math.Float64bits", "math.sqrt"], unfollowed := true, recurses := true, apart := false }
def CpuFailsSaid : Prop := cpuFailsRow.holds Try.pinned (OpenSpec.ofChange cpuFailsSpec)

/-- ITS FALSE NEIGHBOUR: 'it returns false'. Refute it at one input. -/
def cpuFailsWrong : ChangeSpec := { name := "cpuFails", fn := fun _ => fun
  | [d1, d2] => { results := [.lit (.bool false)], args := [d1, d2] }
  | _ => none }
def CpuFailsWrongFalsely : Prop := cpuFailsRow.holds Try.pinned (OpenSpec.ofChange cpuFailsWrong)

/-- 'halterlaw12.CpuJumps': WHATEVER THE INPUT: true; the input reads as it did. -/
def cpuJumpsSpec : ChangeSpec := { name := "cpuJumps", fn := fun _ => fun
  | [d1, d2] => { results := [.lit (.bool true)], args := [d1, d2] }
  | _ => none }
def cpuJumpsRow : OpenClaim := { program := "ytllannmegnklmaa", sum := "b16c24e95d980b04e82d21bd7c42da3b7099370e66b5e03cd729a7f40cba5d09", func := "halter/halterlaw12.CpuJumps", spec := "cpuJumps", inPlace := ["internal/reflectlite.TypeOf", "math.Float64frombits", "math.Float64bits", "math.sqrt"], unfollowed := true, recurses := true, apart := false }
def CpuJumpsSaid : Prop := cpuJumpsRow.holds Try.pinned (OpenSpec.ofChange cpuJumpsSpec)

/-- ITS FALSE NEIGHBOUR: 'it returns false'. Refute it at one input. -/
def cpuJumpsWrong : ChangeSpec := { name := "cpuJumps", fn := fun _ => fun
  | [d1, d2] => { results := [.lit (.bool false)], args := [d1, d2] }
  | _ => none }
def CpuJumpsWrongFalsely : Prop := cpuJumpsRow.holds Try.pinned (OpenSpec.ofChange cpuJumpsWrong)

/-- 'halterlaw12.CpuFloats': WHATEVER THE INPUT: true; the input reads as it did. -/
def cpuFloatsSpec : ChangeSpec := { name := "cpuFloats", fn := fun _ => fun
  | [d1, d2, d3] => { results := [.lit (.bool true)], args := [d1, d2, d3] }
  | _ => none }
def cpuFloatsRow : OpenClaim := { program := "ytllannmegnklmaa", sum := "b16c24e95d980b04e82d21bd7c42da3b7099370e66b5e03cd729a7f40cba5d09", func := "halter/halterlaw12.CpuFloats", spec := "cpuFloats", inPlace := ["internal/reflectlite.TypeOf", "math.Float64frombits", "math.Float64bits", "math.sqrt"], unfollowed := true, recurses := true, apart := false }
def CpuFloatsSaid : Prop := cpuFloatsRow.holds Try.pinned (OpenSpec.ofChange cpuFloatsSpec)

/-- ITS FALSE NEIGHBOUR: 'it returns false'. Refute it at one input. -/
def cpuFloatsWrong : ChangeSpec := { name := "cpuFloats", fn := fun _ => fun
  | [d1, d2, d3] => { results := [.lit (.bool false)], args := [d1, d2, d3] }
  | _ => none }
def CpuFloatsWrongFalsely : Prop := cpuFloatsRow.holds Try.pinned (OpenSpec.ofChange cpuFloatsWrong)

/- THE SECOND FORM. 'bulk': how many values and letters a reading holds, each counted each time it is reached (what is shared counts as often as it is met; a slice's spare places count too). A statement '..UptoSaid' is the law's where the arguments, and the package variables that the reading takes, are together of bulk at most 1048576: NARROWER than '..Said'. Prove '..Said' where nothing that the law and all that it calls make is longer than what came in: it says more and counts as full. Else prove '..UptoSaid'. A law counts once. -/
mutual
def uptoBulk {H : Type} : DataW H → Nat
  | .lit (.string bytes) => bytes.length + 1
  | .lit _ => 1
  | .nil => 1
  | .ptr d => uptoBulk d + 1
  | .slice elems spare => uptoBulkAll elems + uptoBulkAll spare + 1
  | .agg parts => uptoBulkAll parts + 1
  | .iface _ d => uptoBulk d + 1
  | .map entries => uptoBulkEntries entries + 1
  | .held _ => 1
def uptoBulkAll {H : Type} : List (DataW H) → Nat
  | [] => 0
  | d :: r => uptoBulk d + uptoBulkAll r
def uptoBulkEntries {H : Type} : List (Lit × DataW H) → Nat
  | [] => 0
  | x :: r => uptoBulkEntry x + uptoBulkEntries r
def uptoBulkEntry {H : Type} : Lit × DataW H → Nat
  | (.string bytes, d) => bytes.length + uptoBulk d + 1
  | (_, d) => uptoBulk d + 1
 end
def uptoSmall : (H : Type) → List (DataW H) → Bool := fun _ ds => decide (uptoBulkAll ds ≤ 1048576)
def OpenSpec.upto (s : _root_.Go.ChangeSpec) : _root_.Go.OpenSpec := { _root_.Go.OpenSpec.ofChange s with cond := some uptoSmall }

/-- 'halterlaw12.CpuFails', WHERE WHAT IT READS IS OF BULK AT MOST 1048576: true; the input reads as it did. -/
def cpuFailsUptoRow : OpenClaim := { program := "ytllannmegnklmaa", sum := "b16c24e95d980b04e82d21bd7c42da3b7099370e66b5e03cd729a7f40cba5d09", func := "halter/halterlaw12.CpuFails", spec := "cpuFails", inPlace := ["internal/reflectlite.TypeOf", "math.Float64frombits", "math.Float64bits", "math.sqrt"], unfollowed := true, recurses := true, apart := false, narrowed := true }
def CpuFailsUptoSaid : Prop := cpuFailsUptoRow.holds Try.pinned (OpenSpec.upto cpuFailsSpec)

/-- 'halterlaw12.CpuJumps', WHERE WHAT IT READS IS OF BULK AT MOST 1048576: true; the input reads as it did. -/
def cpuJumpsUptoRow : OpenClaim := { program := "ytllannmegnklmaa", sum := "b16c24e95d980b04e82d21bd7c42da3b7099370e66b5e03cd729a7f40cba5d09", func := "halter/halterlaw12.CpuJumps", spec := "cpuJumps", inPlace := ["internal/reflectlite.TypeOf", "math.Float64frombits", "math.Float64bits", "math.sqrt"], unfollowed := true, recurses := true, apart := false, narrowed := true }
def CpuJumpsUptoSaid : Prop := cpuJumpsUptoRow.holds Try.pinned (OpenSpec.upto cpuJumpsSpec)

/-- 'halterlaw12.CpuFloats', WHERE WHAT IT READS IS OF BULK AT MOST 1048576: true; the input reads as it did. -/
def cpuFloatsUptoRow : OpenClaim := { program := "ytllannmegnklmaa", sum := "b16c24e95d980b04e82d21bd7c42da3b7099370e66b5e03cd729a7f40cba5d09", func := "halter/halterlaw12.CpuFloats", spec := "cpuFloats", inPlace := ["internal/reflectlite.TypeOf", "math.Float64frombits", "math.Float64bits", "math.sqrt"], unfollowed := true, recurses := true, apart := false, narrowed := true }
def CpuFloatsUptoSaid : Prop := cpuFloatsUptoRow.holds Try.pinned (OpenSpec.upto cpuFloatsSpec)

end Rows
end Go.Proofs.Ytllannmegnklmaa
