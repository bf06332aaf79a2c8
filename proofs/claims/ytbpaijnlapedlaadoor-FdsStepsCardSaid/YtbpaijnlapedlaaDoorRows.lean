/-
  NARROWER THAN 'FOR EVERY INPUT', by the rows' own cells (each row's printed sentence says how): FdsSteps: laid · FdsKeeps: laid · FdsDoubles: laid.
  DERIVED. THE GIVEN ROWS OF THIS SEAT. 3 by the template 'for every input the law returns true; each argument reads behind the call as it read before'; 0 by the template 'total and deterministic' (their statements: YtbpaijnlapedlaaDoorTotals.lean).
  GIVEN WITH THE SEED: the statements are not yours to turn. If you find one false, say at which input.
  Laid BY PROGRAM, IN A SANDBOX (cutbox-rows.mjs): the forced cells as the released guide's own fill.sh prints them over the translation 57f9a8efabfbface… (all of the seat's roots in one cut). By AI agents, Wed Nov 11 2026. No macro, syntax, notation, axiom, sorry.
-/
import Derived.Test.YtbpaijnlapedlaaDoorChecked
import GoSem.Claim
import GoSem.ClaimJoined
import GoSem.ClaimMapViews
import Derived.JoinedTies
import Derived.KernelRfl
namespace Go.Proofs.YtbpaijnlapedlaaDoor
/- THE CELL 'sum', in the pinned program and in every row, IS THE sha256 OF THE DUMP (.gsa) THAT YtbpaijnlapedlaaDoorProg.lean LOADS. Nothing in Lean hashes anything: it is a label: what it is worth is what the hold of that sum in a sandbox is worth. -/
noncomputable def Tryd.pinned : Pinned := { name := "ytbpaijnlapedlaadoor", sum := "57f9a8efabfbface534018b5ce4a15059585fc3fb170eb40a66311fe81d3dc7a", checked := Tryd.checked }
namespace Rows
def none {H : Type} : Left H := { results := [], args := [] }

/- WHAT THE LISTED PACKAGE-LEVEL VARIABLES READ AS WHEN THE CALL BEGINS. Each datum BY PROGRAM (the guide's laid-datum.mjs) off the statement by which the dump's own 'gosem.cut.vars' lays the variable. In a bare row this is a premise. The card (YtbpaijnlapedlaaDoorCards.lean) ties it to the program's text. -/
def laid_errors_errorType {H : Type} : DataW H := .iface "internal/reflectlite.rtype" (.agg [.ptr (.lit (.string [101, 114, 114, 111, 114]))])

/-- 'halterlaw20.FdsSteps': WHATEVER THE INPUT: true; the input reads as it did. -/
def fdsStepsSpec : ChangeSpec := { name := "fdsSteps", fn := fun _ => fun
  | [d1, d2, d3] => { results := [.lit (.bool true)], args := [d1, d2, d3] }
  | _ => none }
def fdsStepsRow : OpenClaim := { program := "ytbpaijnlapedlaadoor", sum := "57f9a8efabfbface534018b5ce4a15059585fc3fb170eb40a66311fe81d3dc7a", func := "halter/halterlaw20.FdsSteps", spec := "fdsSteps", inPlace := ["internal/reflectlite.ValueOf", "(internal/reflectlite.Value).Type", "(internal/reflectlite.Value).IsNil", "internal/reflectlite.TypeOf", "(internal/reflectlite.Value).Elem", "(internal/reflectlite.Value).Set"], unfollowed := true, recurses := true, named := ["errors.errorType"], apart := false, laid := [("errors.errorType", laid_errors_errorType)] }
def FdsStepsSaid : Prop := fdsStepsRow.holds Tryd.pinned (OpenSpec.ofChange fdsStepsSpec)

/-- ITS FALSE NEIGHBOUR: 'it returns false'. Refute it at one input. -/
def fdsStepsWrong : ChangeSpec := { name := "fdsSteps", fn := fun _ => fun
  | [d1, d2, d3] => { results := [.lit (.bool false)], args := [d1, d2, d3] }
  | _ => none }
def FdsStepsWrongFalsely : Prop := fdsStepsRow.holds Tryd.pinned (OpenSpec.ofChange fdsStepsWrong)

/-- 'halterlaw20.FdsKeeps': WHATEVER THE INPUT: true; the input reads as it did. -/
def fdsKeepsSpec : ChangeSpec := { name := "fdsKeeps", fn := fun _ => fun
  | [d1, d2] => { results := [.lit (.bool true)], args := [d1, d2] }
  | _ => none }
def fdsKeepsRow : OpenClaim := { program := "ytbpaijnlapedlaadoor", sum := "57f9a8efabfbface534018b5ce4a15059585fc3fb170eb40a66311fe81d3dc7a", func := "halter/halterlaw20.FdsKeeps", spec := "fdsKeeps", inPlace := ["internal/reflectlite.ValueOf", "(internal/reflectlite.Value).Type", "(internal/reflectlite.Value).IsNil", "internal/reflectlite.TypeOf", "(internal/reflectlite.Value).Elem", "(internal/reflectlite.Value).Set"], unfollowed := true, recurses := true, named := ["errors.errorType"], apart := false, laid := [("errors.errorType", laid_errors_errorType)] }
def FdsKeepsSaid : Prop := fdsKeepsRow.holds Tryd.pinned (OpenSpec.ofChange fdsKeepsSpec)

/-- ITS FALSE NEIGHBOUR: 'it returns false'. Refute it at one input. -/
def fdsKeepsWrong : ChangeSpec := { name := "fdsKeeps", fn := fun _ => fun
  | [d1, d2] => { results := [.lit (.bool false)], args := [d1, d2] }
  | _ => none }
def FdsKeepsWrongFalsely : Prop := fdsKeepsRow.holds Tryd.pinned (OpenSpec.ofChange fdsKeepsWrong)

/-- 'halterlaw20.FdsDoubles': WHATEVER THE INPUT: true; the input reads as it did. -/
def fdsDoublesSpec : ChangeSpec := { name := "fdsDoubles", fn := fun _ => fun
  | [d1, d2] => { results := [.lit (.bool true)], args := [d1, d2] }
  | _ => none }
def fdsDoublesRow : OpenClaim := { program := "ytbpaijnlapedlaadoor", sum := "57f9a8efabfbface534018b5ce4a15059585fc3fb170eb40a66311fe81d3dc7a", func := "halter/halterlaw20.FdsDoubles", spec := "fdsDoubles", inPlace := ["internal/reflectlite.ValueOf", "(internal/reflectlite.Value).Type", "(internal/reflectlite.Value).IsNil", "internal/reflectlite.TypeOf", "(internal/reflectlite.Value).Elem", "(internal/reflectlite.Value).Set"], unfollowed := true, recurses := true, named := ["errors.errorType"], apart := false, laid := [("errors.errorType", laid_errors_errorType)] }
def FdsDoublesSaid : Prop := fdsDoublesRow.holds Tryd.pinned (OpenSpec.ofChange fdsDoublesSpec)

/-- ITS FALSE NEIGHBOUR: 'it returns false'. Refute it at one input. -/
def fdsDoublesWrong : ChangeSpec := { name := "fdsDoubles", fn := fun _ => fun
  | [d1, d2] => { results := [.lit (.bool false)], args := [d1, d2] }
  | _ => none }
def FdsDoublesWrongFalsely : Prop := fdsDoublesRow.holds Tryd.pinned (OpenSpec.ofChange fdsDoublesWrong)

/- THE SECOND FORM. 'bulk': how many values and letters a reading holds, each counted each time it is reached (what is shared counts as often as it is met; a slice's spare places count too). A statement '..UptoSaid' is the law's where the arguments, and the package variables that the reading takes, are together of bulk at most 1048576: NARROWER than '..Said'. Prove '..Said' where nothing that the law and all that it calls make is longer than what came in: it says more and counts as full. Else prove '..UptoSaid'. A law counts once. -/
mutual
def uptoBulk {H : Type} : DataW H → Nat
  | .lit (.string bytes) => bytes.length + 1
  | .lit _ => 1
  | .nil => 1
  | .ptr d => uptoBulk d + 1
  | .slice elems spare => uptoBulkAll elems + uptoBulkAll spare + 1
  | .agg parts => uptoBulkAll parts + 1
  | .iface _ d => uptoBulk d + 1
  | .map entries => uptoBulkEntries entries + 1
  | .held _ => 1
def uptoBulkAll {H : Type} : List (DataW H) → Nat
  | [] => 0
  | d :: r => uptoBulk d + uptoBulkAll r
def uptoBulkEntries {H : Type} : List (Lit × DataW H) → Nat
  | [] => 0
  | x :: r => uptoBulkEntry x + uptoBulkEntries r
def uptoBulkEntry {H : Type} : Lit × DataW H → Nat
  | (.string bytes, d) => bytes.length + uptoBulk d + 1
  | (_, d) => uptoBulk d + 1
 end
def uptoSmall : (H : Type) → List (DataW H) → Bool := fun _ ds => decide (uptoBulkAll ds ≤ 1048576)
def OpenSpec.upto (s : _root_.Go.ChangeSpec) : _root_.Go.OpenSpec := { _root_.Go.OpenSpec.ofChange s with cond := some uptoSmall }

/-- 'halterlaw20.FdsSteps', WHERE WHAT IT READS IS OF BULK AT MOST 1048576: true; the input reads as it did. -/
def fdsStepsUptoRow : OpenClaim := { program := "ytbpaijnlapedlaadoor", sum := "57f9a8efabfbface534018b5ce4a15059585fc3fb170eb40a66311fe81d3dc7a", func := "halter/halterlaw20.FdsSteps", spec := "fdsSteps", inPlace := ["internal/reflectlite.ValueOf", "(internal/reflectlite.Value).Type", "(internal/reflectlite.Value).IsNil", "internal/reflectlite.TypeOf", "(internal/reflectlite.Value).Elem", "(internal/reflectlite.Value).Set"], unfollowed := true, recurses := true, named := ["errors.errorType"], apart := false, laid := [("errors.errorType", laid_errors_errorType)], narrowed := true }
def FdsStepsUptoSaid : Prop := fdsStepsUptoRow.holds Tryd.pinned (OpenSpec.upto fdsStepsSpec)

/-- 'halterlaw20.FdsKeeps', WHERE WHAT IT READS IS OF BULK AT MOST 1048576: true; the input reads as it did. -/
def fdsKeepsUptoRow : OpenClaim := { program := "ytbpaijnlapedlaadoor", sum := "57f9a8efabfbface534018b5ce4a15059585fc3fb170eb40a66311fe81d3dc7a", func := "halter/halterlaw20.FdsKeeps", spec := "fdsKeeps", inPlace := ["internal/reflectlite.ValueOf", "(internal/reflectlite.Value).Type", "(internal/reflectlite.Value).IsNil", "internal/reflectlite.TypeOf", "(internal/reflectlite.Value).Elem", "(internal/reflectlite.Value).Set"], unfollowed := true, recurses := true, named := ["errors.errorType"], apart := false, laid := [("errors.errorType", laid_errors_errorType)], narrowed := true }
def FdsKeepsUptoSaid : Prop := fdsKeepsUptoRow.holds Tryd.pinned (OpenSpec.upto fdsKeepsSpec)

/-- 'halterlaw20.FdsDoubles', WHERE WHAT IT READS IS OF BULK AT MOST 1048576: true; the input reads as it did. -/
def fdsDoublesUptoRow : OpenClaim := { program := "ytbpaijnlapedlaadoor", sum := "57f9a8efabfbface534018b5ce4a15059585fc3fb170eb40a66311fe81d3dc7a", func := "halter/halterlaw20.FdsDoubles", spec := "fdsDoubles", inPlace := ["internal/reflectlite.ValueOf", "(internal/reflectlite.Value).Type", "(internal/reflectlite.Value).IsNil", "internal/reflectlite.TypeOf", "(internal/reflectlite.Value).Elem", "(internal/reflectlite.Value).Set"], unfollowed := true, recurses := true, named := ["errors.errorType"], apart := false, laid := [("errors.errorType", laid_errors_errorType)], narrowed := true }
def FdsDoublesUptoSaid : Prop := fdsDoublesUptoRow.holds Tryd.pinned (OpenSpec.upto fdsDoublesSpec)

end Rows
end Go.Proofs.YtbpaijnlapedlaaDoor
