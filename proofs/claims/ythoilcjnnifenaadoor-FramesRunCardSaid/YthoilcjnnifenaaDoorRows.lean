/-
  NARROWER THAN 'FOR EVERY INPUT', by the rows' own cells (each row's printed sentence says how): FramesRun: laid · FramesCount: laid · FramesAgain: laid.
  DERIVED. THE GIVEN ROWS OF THIS SEAT. 3 by the template 'for every input the law returns true; each argument reads behind the call as it read before'; 0 by the template 'total and deterministic' (their statements: YthoilcjnnifenaaDoorTotals.lean).
  GIVEN WITH THE SEED: the statements are not yours to turn. If you find one false, say at which input.
  Laid BY PROGRAM, IN A SANDBOX (cutbox-rows.mjs): the forced cells as the released guide's own fill.sh prints them over the translation 44104a1857065f10… (all of the seat's roots in one cut). By AI agents, Wed Nov 11 2026. No macro, syntax, notation, axiom, sorry.
-/
import Derived.Test.YthoilcjnnifenaaDoorChecked
import GoSem.Claim
import GoSem.ClaimJoined
import GoSem.ClaimMapViews
import Derived.JoinedTies
import Derived.KernelRfl
namespace Go.Proofs.YthoilcjnnifenaaDoor
/- THE CELL 'sum', in the pinned program and in every row, IS THE sha256 OF THE DUMP (.gsa) THAT YthoilcjnnifenaaDoorProg.lean LOADS. Nothing in Lean hashes anything: it is a label: what it is worth is what the hold of that sum in a sandbox is worth. -/
noncomputable def Tryd.pinned : Pinned := { name := "ythoilcjnnifenaadoor", sum := "44104a1857065f10494e23340ad2a2519e9f9ba113a0b03f40191991c14a1024", checked := Tryd.checked }
namespace Rows
def none {H : Type} : Left H := { results := [], args := [] }

/- WHAT THE LISTED PACKAGE-LEVEL VARIABLES READ AS WHEN THE CALL BEGINS. Each datum BY PROGRAM (the guide's laid-datum.mjs) off the statement by which the dump's own 'gosem.cut.vars' lays the variable. In a bare row this is a premise. The card (YthoilcjnnifenaaDoorCards.lean) ties it to the program's text. -/
def laid_errors_errorType {H : Type} : DataW H := .iface "internal/reflectlite.rtype" (.agg [.ptr (.lit (.string [101, 114, 114, 111, 114]))])

/-- 'halterlaw04.FramesRun': WHATEVER THE INPUT: true; the input reads as it did. -/
def framesRunSpec : ChangeSpec := { name := "framesRun", fn := fun _ => fun
  | [d1, d2] => { results := [.lit (.bool true)], args := [d1, d2] }
  | _ => none }
def framesRunRow : OpenClaim := { program := "ythoilcjnnifenaadoor", sum := "44104a1857065f10494e23340ad2a2519e9f9ba113a0b03f40191991c14a1024", func := "halter/halterlaw04.FramesRun", spec := "framesRun", inPlace := ["internal/reflectlite.ValueOf", "(internal/reflectlite.Value).Type", "(internal/reflectlite.Value).IsNil", "internal/reflectlite.TypeOf", "(internal/reflectlite.Value).Elem", "(internal/reflectlite.Value).Set"], unfollowed := true, recurses := true, named := ["errors.errorType"], apart := false, laid := [("errors.errorType", laid_errors_errorType)] }
def FramesRunSaid : Prop := framesRunRow.holds Tryd.pinned (OpenSpec.ofChange framesRunSpec)

/-- ITS FALSE NEIGHBOUR: 'it returns false'. Refute it at one input. -/
def framesRunWrong : ChangeSpec := { name := "framesRun", fn := fun _ => fun
  | [d1, d2] => { results := [.lit (.bool false)], args := [d1, d2] }
  | _ => none }
def FramesRunWrongFalsely : Prop := framesRunRow.holds Tryd.pinned (OpenSpec.ofChange framesRunWrong)

/-- 'halterlaw04.FramesCount': WHATEVER THE INPUT: true; the input reads as it did. -/
def framesCountSpec : ChangeSpec := { name := "framesCount", fn := fun _ => fun
  | [d1, d2] => { results := [.lit (.bool true)], args := [d1, d2] }
  | _ => none }
def framesCountRow : OpenClaim := { program := "ythoilcjnnifenaadoor", sum := "44104a1857065f10494e23340ad2a2519e9f9ba113a0b03f40191991c14a1024", func := "halter/halterlaw04.FramesCount", spec := "framesCount", inPlace := ["internal/reflectlite.ValueOf", "(internal/reflectlite.Value).Type", "(internal/reflectlite.Value).IsNil", "internal/reflectlite.TypeOf", "(internal/reflectlite.Value).Elem", "(internal/reflectlite.Value).Set"], unfollowed := true, recurses := true, named := ["errors.errorType"], apart := false, laid := [("errors.errorType", laid_errors_errorType)] }
def FramesCountSaid : Prop := framesCountRow.holds Tryd.pinned (OpenSpec.ofChange framesCountSpec)

/-- ITS FALSE NEIGHBOUR: 'it returns false'. Refute it at one input. -/
def framesCountWrong : ChangeSpec := { name := "framesCount", fn := fun _ => fun
  | [d1, d2] => { results := [.lit (.bool false)], args := [d1, d2] }
  | _ => none }
def FramesCountWrongFalsely : Prop := framesCountRow.holds Tryd.pinned (OpenSpec.ofChange framesCountWrong)

/-- 'halterlaw04.FramesAgain': WHATEVER THE INPUT: true; the input reads as it did. -/
def framesAgainSpec : ChangeSpec := { name := "framesAgain", fn := fun _ => fun
  | [d1, d2, d3] => { results := [.lit (.bool true)], args := [d1, d2, d3] }
  | _ => none }
def framesAgainRow : OpenClaim := { program := "ythoilcjnnifenaadoor", sum := "44104a1857065f10494e23340ad2a2519e9f9ba113a0b03f40191991c14a1024", func := "halter/halterlaw04.FramesAgain", spec := "framesAgain", inPlace := ["internal/reflectlite.ValueOf", "(internal/reflectlite.Value).Type", "(internal/reflectlite.Value).IsNil", "internal/reflectlite.TypeOf", "(internal/reflectlite.Value).Elem", "(internal/reflectlite.Value).Set"], unfollowed := true, recurses := true, named := ["errors.errorType"], apart := false, laid := [("errors.errorType", laid_errors_errorType)] }
def FramesAgainSaid : Prop := framesAgainRow.holds Tryd.pinned (OpenSpec.ofChange framesAgainSpec)

/-- ITS FALSE NEIGHBOUR: 'it returns false'. Refute it at one input. -/
def framesAgainWrong : ChangeSpec := { name := "framesAgain", fn := fun _ => fun
  | [d1, d2, d3] => { results := [.lit (.bool false)], args := [d1, d2, d3] }
  | _ => none }
def FramesAgainWrongFalsely : Prop := framesAgainRow.holds Tryd.pinned (OpenSpec.ofChange framesAgainWrong)

/- THE SECOND FORM. 'bulk': how many values and letters a reading holds, each counted each time it is reached (what is shared counts as often as it is met; a slice's spare places count too). A statement '..UptoSaid' is the law's where the arguments, and the package variables that the reading takes, are together of bulk at most 1048576: NARROWER than '..Said'. Prove '..Said' where nothing that the law and all that it calls make is longer than what came in: it says more and counts as full. Else prove '..UptoSaid'. A law counts once. -/
mutual
def uptoBulk {H : Type} : DataW H → Nat
  | .lit (.string bytes) => bytes.length + 1
  | .lit _ => 1
  | .nil => 1
  | .ptr d => uptoBulk d + 1
  | .slice elems spare => uptoBulkAll elems + uptoBulkAll spare + 1
  | .agg parts => uptoBulkAll parts + 1
  | .iface _ d => uptoBulk d + 1
  | .map entries => uptoBulkEntries entries + 1
  | .held _ => 1
def uptoBulkAll {H : Type} : List (DataW H) → Nat
  | [] => 0
  | d :: r => uptoBulk d + uptoBulkAll r
def uptoBulkEntries {H : Type} : List (Lit × DataW H) → Nat
  | [] => 0
  | x :: r => uptoBulkEntry x + uptoBulkEntries r
def uptoBulkEntry {H : Type} : Lit × DataW H → Nat
  | (.string bytes, d) => bytes.length + uptoBulk d + 1
  | (_, d) => uptoBulk d + 1
 end
def uptoSmall : (H : Type) → List (DataW H) → Bool := fun _ ds => decide (uptoBulkAll ds ≤ 1048576)
def OpenSpec.upto (s : _root_.Go.ChangeSpec) : _root_.Go.OpenSpec := { _root_.Go.OpenSpec.ofChange s with cond := some uptoSmall }

/-- 'halterlaw04.FramesRun', WHERE WHAT IT READS IS OF BULK AT MOST 1048576: true; the input reads as it did. -/
def framesRunUptoRow : OpenClaim := { program := "ythoilcjnnifenaadoor", sum := "44104a1857065f10494e23340ad2a2519e9f9ba113a0b03f40191991c14a1024", func := "halter/halterlaw04.FramesRun", spec := "framesRun", inPlace := ["internal/reflectlite.ValueOf", "(internal/reflectlite.Value).Type", "(internal/reflectlite.Value).IsNil", "internal/reflectlite.TypeOf", "(internal/reflectlite.Value).Elem", "(internal/reflectlite.Value).Set"], unfollowed := true, recurses := true, named := ["errors.errorType"], apart := false, laid := [("errors.errorType", laid_errors_errorType)], narrowed := true }
def FramesRunUptoSaid : Prop := framesRunUptoRow.holds Tryd.pinned (OpenSpec.upto framesRunSpec)

/-- 'halterlaw04.FramesCount', WHERE WHAT IT READS IS OF BULK AT MOST 1048576: true; the input reads as it did. -/
def framesCountUptoRow : OpenClaim := { program := "ythoilcjnnifenaadoor", sum := "44104a1857065f10494e23340ad2a2519e9f9ba113a0b03f40191991c14a1024", func := "halter/halterlaw04.FramesCount", spec := "framesCount", inPlace := ["internal/reflectlite.ValueOf", "(internal/reflectlite.Value).Type", "(internal/reflectlite.Value).IsNil", "internal/reflectlite.TypeOf", "(internal/reflectlite.Value).Elem", "(internal/reflectlite.Value).Set"], unfollowed := true, recurses := true, named := ["errors.errorType"], apart := false, laid := [("errors.errorType", laid_errors_errorType)], narrowed := true }
def FramesCountUptoSaid : Prop := framesCountUptoRow.holds Tryd.pinned (OpenSpec.upto framesCountSpec)

/-- 'halterlaw04.FramesAgain', WHERE WHAT IT READS IS OF BULK AT MOST 1048576: true; the input reads as it did. -/
def framesAgainUptoRow : OpenClaim := { program := "ythoilcjnnifenaadoor", sum := "44104a1857065f10494e23340ad2a2519e9f9ba113a0b03f40191991c14a1024", func := "halter/halterlaw04.FramesAgain", spec := "framesAgain", inPlace := ["internal/reflectlite.ValueOf", "(internal/reflectlite.Value).Type", "(internal/reflectlite.Value).IsNil", "internal/reflectlite.TypeOf", "(internal/reflectlite.Value).Elem", "(internal/reflectlite.Value).Set"], unfollowed := true, recurses := true, named := ["errors.errorType"], apart := false, laid := [("errors.errorType", laid_errors_errorType)], narrowed := true }
def FramesAgainUptoSaid : Prop := framesAgainUptoRow.holds Tryd.pinned (OpenSpec.upto framesAgainSpec)

end Rows
end Go.Proofs.YthoilcjnnifenaaDoor
