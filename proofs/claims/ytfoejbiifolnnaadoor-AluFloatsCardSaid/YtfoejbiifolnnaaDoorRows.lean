/-
  NARROWER THAN 'FOR EVERY INPUT', by the rows' own cells (each row's printed sentence says how): AluDoes: laid · AluFloats: laid · AluCarries: laid · AluSteps: laid.
  DERIVED. THE GIVEN ROWS OF THIS SEAT. 4 by the template 'for every input the law returns true; each argument reads behind the call as it read before'; 0 by the template 'total and deterministic' (their statements: YtfoejbiifolnnaaDoorTotals.lean).
  GIVEN WITH THE SEED: the statements are not yours to turn. If you find one false, say at which input.
  Laid BY PROGRAM, IN A SANDBOX (cutbox-rows.mjs): the forced cells as the released guide's own fill.sh prints them over the translation 4417220b0f2b5710… (all of the seat's roots in one cut). By AI agents, Wed Nov 11 2026. No macro, syntax, notation, axiom, sorry.
-/
import Derived.Test.YtfoejbiifolnnaaDoorChecked
import GoSem.Claim
import GoSem.ClaimJoined
import GoSem.ClaimMapViews
import Derived.JoinedTies
import Derived.KernelRfl
namespace Go.Proofs.YtfoejbiifolnnaaDoor
/- THE CELL 'sum', in the pinned program and in every row, IS THE sha256 OF THE DUMP (.gsa) THAT YtfoejbiifolnnaaDoorProg.lean LOADS. Nothing in Lean hashes anything: it is a label: what it is worth is what the hold of that sum in a sandbox is worth. -/
noncomputable def Tryd.pinned : Pinned := { name := "ytfoejbiifolnnaadoor", sum := "4417220b0f2b57105a65790b691084fc0d8aa7b82993b6f2aad930f55472fb56", checked := Tryd.checked }
namespace Rows
def none {H : Type} : Left H := { results := [], args := [] }

/- WHAT THE LISTED PACKAGE-LEVEL VARIABLES READ AS WHEN THE CALL BEGINS. Each datum BY PROGRAM (the guide's laid-datum.mjs) off the statement by which the dump's own 'gosem.cut.vars' lays the variable. In a bare row this is a premise. The card (YtfoejbiifolnnaaDoorCards.lean) ties it to the program's text. -/
def laid_errors_errorType {H : Type} : DataW H := .iface "internal/reflectlite.rtype" (.agg [.ptr (.lit (.string [101, 114, 114, 111, 114]))])

/-- 'halterlaw11.AluDoes': WHATEVER THE INPUT: true; the input reads as it did. -/
def aluDoesSpec : ChangeSpec := { name := "aluDoes", fn := fun _ => fun
  | [d1, d2, d3] => { results := [.lit (.bool true)], args := [d1, d2, d3] }
  | _ => none }
def aluDoesRow : OpenClaim := { program := "ytfoejbiifolnnaadoor", sum := "4417220b0f2b57105a65790b691084fc0d8aa7b82993b6f2aad930f55472fb56", func := "halter/halterlaw11.AluDoes", spec := "aluDoes", inPlace := ["internal/reflectlite.ValueOf", "(internal/reflectlite.Value).Type", "(internal/reflectlite.Value).IsNil", "internal/reflectlite.TypeOf", "(internal/reflectlite.Value).Elem", "(internal/reflectlite.Value).Set", "math.Float64frombits", "math.Float64bits", "math.sqrt"], unfollowed := true, recurses := true, named := ["errors.errorType"], apart := false, laid := [("errors.errorType", laid_errors_errorType)] }
def AluDoesSaid : Prop := aluDoesRow.holds Tryd.pinned (OpenSpec.ofChange aluDoesSpec)

/-- ITS FALSE NEIGHBOUR: 'it returns false'. Refute it at one input. -/
def aluDoesWrong : ChangeSpec := { name := "aluDoes", fn := fun _ => fun
  | [d1, d2, d3] => { results := [.lit (.bool false)], args := [d1, d2, d3] }
  | _ => none }
def AluDoesWrongFalsely : Prop := aluDoesRow.holds Tryd.pinned (OpenSpec.ofChange aluDoesWrong)

/-- 'halterlaw11.AluFloats': WHATEVER THE INPUT: true; the input reads as it did. -/
def aluFloatsSpec : ChangeSpec := { name := "aluFloats", fn := fun _ => fun
  | [d1, d2, d3] => { results := [.lit (.bool true)], args := [d1, d2, d3] }
  | _ => none }
def aluFloatsRow : OpenClaim := { program := "ytfoejbiifolnnaadoor", sum := "4417220b0f2b57105a65790b691084fc0d8aa7b82993b6f2aad930f55472fb56", func := "halter/halterlaw11.AluFloats", spec := "aluFloats", inPlace := ["math.Float64frombits", "math.Float64bits", "math.sqrt", "internal/reflectlite.ValueOf", "(internal/reflectlite.Value).Type", "(internal/reflectlite.Value).IsNil", "internal/reflectlite.TypeOf", "(internal/reflectlite.Value).Elem", "(internal/reflectlite.Value).Set"], unfollowed := true, recurses := true, named := ["errors.errorType"], apart := false, laid := [("errors.errorType", laid_errors_errorType)] }
def AluFloatsSaid : Prop := aluFloatsRow.holds Tryd.pinned (OpenSpec.ofChange aluFloatsSpec)

/-- ITS FALSE NEIGHBOUR: 'it returns false'. Refute it at one input. -/
def aluFloatsWrong : ChangeSpec := { name := "aluFloats", fn := fun _ => fun
  | [d1, d2, d3] => { results := [.lit (.bool false)], args := [d1, d2, d3] }
  | _ => none }
def AluFloatsWrongFalsely : Prop := aluFloatsRow.holds Tryd.pinned (OpenSpec.ofChange aluFloatsWrong)

/-- 'halterlaw11.AluCarries': WHATEVER THE INPUT: true; the input reads as it did. -/
def aluCarriesSpec : ChangeSpec := { name := "aluCarries", fn := fun _ => fun
  | [d1, d2, d3] => { results := [.lit (.bool true)], args := [d1, d2, d3] }
  | _ => none }
def aluCarriesRow : OpenClaim := { program := "ytfoejbiifolnnaadoor", sum := "4417220b0f2b57105a65790b691084fc0d8aa7b82993b6f2aad930f55472fb56", func := "halter/halterlaw11.AluCarries", spec := "aluCarries", inPlace := ["internal/reflectlite.ValueOf", "(internal/reflectlite.Value).Type", "(internal/reflectlite.Value).IsNil", "internal/reflectlite.TypeOf", "(internal/reflectlite.Value).Elem", "(internal/reflectlite.Value).Set", "math.Float64frombits", "math.Float64bits", "math.sqrt"], unfollowed := true, recurses := true, named := ["errors.errorType"], apart := false, laid := [("errors.errorType", laid_errors_errorType)] }
def AluCarriesSaid : Prop := aluCarriesRow.holds Tryd.pinned (OpenSpec.ofChange aluCarriesSpec)

/-- ITS FALSE NEIGHBOUR: 'it returns false'. Refute it at one input. -/
def aluCarriesWrong : ChangeSpec := { name := "aluCarries", fn := fun _ => fun
  | [d1, d2, d3] => { results := [.lit (.bool false)], args := [d1, d2, d3] }
  | _ => none }
def AluCarriesWrongFalsely : Prop := aluCarriesRow.holds Tryd.pinned (OpenSpec.ofChange aluCarriesWrong)

/-- 'halterlaw11.AluSteps': WHATEVER THE INPUT: true; the input reads as it did. -/
def aluStepsSpec : ChangeSpec := { name := "aluSteps", fn := fun _ => fun
  | [d1, d2, d3] => { results := [.lit (.bool true)], args := [d1, d2, d3] }
  | _ => none }
def aluStepsRow : OpenClaim := { program := "ytfoejbiifolnnaadoor", sum := "4417220b0f2b57105a65790b691084fc0d8aa7b82993b6f2aad930f55472fb56", func := "halter/halterlaw11.AluSteps", spec := "aluSteps", inPlace := ["math.Float64frombits", "internal/reflectlite.ValueOf", "(internal/reflectlite.Value).Type", "(internal/reflectlite.Value).IsNil", "internal/reflectlite.TypeOf", "(internal/reflectlite.Value).Elem", "(internal/reflectlite.Value).Set", "math.Float64bits", "math.sqrt"], unfollowed := true, recurses := true, named := ["errors.errorType"], apart := false, laid := [("errors.errorType", laid_errors_errorType)] }
def AluStepsSaid : Prop := aluStepsRow.holds Tryd.pinned (OpenSpec.ofChange aluStepsSpec)

/-- ITS FALSE NEIGHBOUR: 'it returns false'. Refute it at one input. -/
def aluStepsWrong : ChangeSpec := { name := "aluSteps", fn := fun _ => fun
  | [d1, d2, d3] => { results := [.lit (.bool false)], args := [d1, d2, d3] }
  | _ => none }
def AluStepsWrongFalsely : Prop := aluStepsRow.holds Tryd.pinned (OpenSpec.ofChange aluStepsWrong)

/- THE SECOND FORM. 'bulk': how many values and letters a reading holds, each counted each time it is reached (what is shared counts as often as it is met; a slice's spare places count too). A statement '..UptoSaid' is the law's where the arguments, and the package variables that the reading takes, are together of bulk at most 1048576: NARROWER than '..Said'. Prove '..Said' where nothing that the law and all that it calls make is longer than what came in: it says more and counts as full. Else prove '..UptoSaid'. A law counts once. -/
mutual
def uptoBulk {H : Type} : DataW H → Nat
  | .lit (.string bytes) => bytes.length + 1
  | .lit _ => 1
  | .nil => 1
  | .ptr d => uptoBulk d + 1
  | .slice elems spare => uptoBulkAll elems + uptoBulkAll spare + 1
  | .agg parts => uptoBulkAll parts + 1
  | .iface _ d => uptoBulk d + 1
  | .map entries => uptoBulkEntries entries + 1
  | .held _ => 1
def uptoBulkAll {H : Type} : List (DataW H) → Nat
  | [] => 0
  | d :: r => uptoBulk d + uptoBulkAll r
def uptoBulkEntries {H : Type} : List (Lit × DataW H) → Nat
  | [] => 0
  | x :: r => uptoBulkEntry x + uptoBulkEntries r
def uptoBulkEntry {H : Type} : Lit × DataW H → Nat
  | (.string bytes, d) => bytes.length + uptoBulk d + 1
  | (_, d) => uptoBulk d + 1
 end
def uptoSmall : (H : Type) → List (DataW H) → Bool := fun _ ds => decide (uptoBulkAll ds ≤ 1048576)
def OpenSpec.upto (s : _root_.Go.ChangeSpec) : _root_.Go.OpenSpec := { _root_.Go.OpenSpec.ofChange s with cond := some uptoSmall }

/-- 'halterlaw11.AluDoes', WHERE WHAT IT READS IS OF BULK AT MOST 1048576: true; the input reads as it did. -/
def aluDoesUptoRow : OpenClaim := { program := "ytfoejbiifolnnaadoor", sum := "4417220b0f2b57105a65790b691084fc0d8aa7b82993b6f2aad930f55472fb56", func := "halter/halterlaw11.AluDoes", spec := "aluDoes", inPlace := ["internal/reflectlite.ValueOf", "(internal/reflectlite.Value).Type", "(internal/reflectlite.Value).IsNil", "internal/reflectlite.TypeOf", "(internal/reflectlite.Value).Elem", "(internal/reflectlite.Value).Set", "math.Float64frombits", "math.Float64bits", "math.sqrt"], unfollowed := true, recurses := true, named := ["errors.errorType"], apart := false, laid := [("errors.errorType", laid_errors_errorType)], narrowed := true }
def AluDoesUptoSaid : Prop := aluDoesUptoRow.holds Tryd.pinned (OpenSpec.upto aluDoesSpec)

/-- 'halterlaw11.AluFloats', WHERE WHAT IT READS IS OF BULK AT MOST 1048576: true; the input reads as it did. -/
def aluFloatsUptoRow : OpenClaim := { program := "ytfoejbiifolnnaadoor", sum := "4417220b0f2b57105a65790b691084fc0d8aa7b82993b6f2aad930f55472fb56", func := "halter/halterlaw11.AluFloats", spec := "aluFloats", inPlace := ["math.Float64frombits", "math.Float64bits", "math.sqrt", "internal/reflectlite.ValueOf", "(internal/reflectlite.Value).Type", "(internal/reflectlite.Value).IsNil", "internal/reflectlite.TypeOf", "(internal/reflectlite.Value).Elem", "(internal/reflectlite.Value).Set"], unfollowed := true, recurses := true, named := ["errors.errorType"], apart := false, laid := [("errors.errorType", laid_errors_errorType)], narrowed := true }
def AluFloatsUptoSaid : Prop := aluFloatsUptoRow.holds Tryd.pinned (OpenSpec.upto aluFloatsSpec)

/-- 'halterlaw11.AluCarries', WHERE WHAT IT READS IS OF BULK AT MOST 1048576: true; the input reads as it did. -/
def aluCarriesUptoRow : OpenClaim := { program := "ytfoejbiifolnnaadoor", sum := "4417220b0f2b57105a65790b691084fc0d8aa7b82993b6f2aad930f55472fb56", func := "halter/halterlaw11.AluCarries", spec := "aluCarries", inPlace := ["internal/reflectlite.ValueOf", "(internal/reflectlite.Value).Type", "(internal/reflectlite.Value).IsNil", "internal/reflectlite.TypeOf", "(internal/reflectlite.Value).Elem", "(internal/reflectlite.Value).Set", "math.Float64frombits", "math.Float64bits", "math.sqrt"], unfollowed := true, recurses := true, named := ["errors.errorType"], apart := false, laid := [("errors.errorType", laid_errors_errorType)], narrowed := true }
def AluCarriesUptoSaid : Prop := aluCarriesUptoRow.holds Tryd.pinned (OpenSpec.upto aluCarriesSpec)

/-- 'halterlaw11.AluSteps', WHERE WHAT IT READS IS OF BULK AT MOST 1048576: true; the input reads as it did. -/
def aluStepsUptoRow : OpenClaim := { program := "ytfoejbiifolnnaadoor", sum := "4417220b0f2b57105a65790b691084fc0d8aa7b82993b6f2aad930f55472fb56", func := "halter/halterlaw11.AluSteps", spec := "aluSteps", inPlace := ["math.Float64frombits", "internal/reflectlite.ValueOf", "(internal/reflectlite.Value).Type", "(internal/reflectlite.Value).IsNil", "internal/reflectlite.TypeOf", "(internal/reflectlite.Value).Elem", "(internal/reflectlite.Value).Set", "math.Float64bits", "math.sqrt"], unfollowed := true, recurses := true, named := ["errors.errorType"], apart := false, laid := [("errors.errorType", laid_errors_errorType)], narrowed := true }
def AluStepsUptoSaid : Prop := aluStepsUptoRow.holds Tryd.pinned (OpenSpec.upto aluStepsSpec)

end Rows
end Go.Proofs.YtfoejbiifolnnaaDoor
