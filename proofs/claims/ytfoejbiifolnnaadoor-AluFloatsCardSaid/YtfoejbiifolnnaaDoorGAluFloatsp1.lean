/- Printed by gen.py: the next part. -/
import Derived.Test.YtfoejbiifolnnaaDoorGAluFloatsp0
set_option linter.unusedVariables false
set_option maxRecDepth 100000
set_option maxHeartbeats 4000000
namespace Go.Proofs.YtfoejbiifolnnaaDoorGAluFloats
open Go Go.Proofs.YtfoejbiifolnnaaDoorE
theorem halterref02_Add.fun_ {a0 : Int} {a1 : Int} {r : Int} (h : halterref02_Add.f a0 a1 = some r) : Fun cfg 35 [.one (.sc (.int .u64 a0)), .one (.sc (.int .u64 a1))] [] (halterref02_Add.R r) [] := by
  unfold halterref02_Add.f at h
  refine fun_of_run cfg_ok (f := 35) (fn := Tryd.f35) Tryd.func35 rfl (by kernel_rfl) (rs := [.tmp 4]) rfl (nt := 191) rfl (l := fin) (k := (.call true [] (Bool) halterref02_none.R (fun t1 => (.br (aE 3 .nil) (.call true [] (Int) halterref02_Class.R (fun t3 => (.br (.call true [] (Int) halterref02_Class.R (fun t5 => (.br (.one true (.call true [] (Bool) halterref02_Neg.R (fun t7 => (oT 2 (.call true [] (Bool) halterref02_Neg.R (fun t8 => (oT 2 (.br (aE 3 .nil) (aE 4 .nil))))))))) (oF 6 (aE 4 .nil))))) (.call true [] (Int) halterref02_Class.R (fun t10 => (.br (aE 3 .nil) (.call true [] (Bool × Int × Int × Bool) halterref02_Open.R (fun t12 => (.call true [] (Bool × Int × Int × Bool) halterref02_Open.R (fun t13 => (.br (oT 3 (.br (.br (oT 2 (.call true [] (Int) halterref02_signed.R (fun t17 => (.adj [] (.adj [.drop 0] .nil))))) (oF 2 (.call true [] (Int) halterref02_signed.R (fun t18 => (.adj [] (.adj [.drop 0] .nil)))))) (.one true (aE 2 (.adj [.drop 0] .nil))))) (oF 5 (.br (aE 2 (.adj [.drop 0] .nil)) (.br (oT 8 (aE 5 (.adj [.keep [5, 6, 7]] (.sub (TY0) (fun _ => (.exit 0)) (fun t62 => ⟨[.any, .any, .any, .any, .any, .v (.one (.ptr 0 ⟨0, 0, 0, 0⟩)), .v (.one (.ptr 1 ⟨0, 0, 0, 0⟩)), .v (.one (.sc (.bool (z4 t62)))), .any, .any, .any, .any, .any, .any, .any, .any, .any, .any, .any, .any, .any, .any, .any, .any, .any, .any, .any, .any, .any, .any, .any, .any, .any, .any, .any, .any, .any, .any, .any, .any, .any, .any, .any, .any, .any, .any, .any, .any, .any, .any, .any, .any, .any, .any, .any, .any, .any, .any, .any, .any, .any, .any, .any, .any, .any, .any, .any, .any, .any, .any, .any, .any, .any, .any, .any, .any, .any, .any, .any, .any, .any, .any, .any, .any, .any, .any, .any, .any, .any, .any, .any, .any, .any, .any, .any, .any, .any, .any, .any, .any, .any, .any, .any, .any, .any, .any, .any, .any, .any, .any, .any, .any, .any, .any, .any, .any, .any, .any, .any, .any, .any, .any, .any, .any, .any, .any, .any, .any, .any, .any, .any, .any, .any, .any, .any, .any, .any, .any, .any, .any, .any, .any, .any, .any, .any, .any, .any, .any, .any, .any, .any, .any, .any, .any, .any, .any, .any, .any, .any, .any, .any, .any, .any, .any, .any, .any, .any, .any, .any, .any, .any, .any, .any, .any, .any, .any, .any, .any, .any, .any, .any, .any, .any, .any, .any, .any, .any, .any, .any, .any, .any], [.ex false [.c (.sc (.bool t13.1)), .c (.sc (.int .u64 t62.1)), .c (.sc (.int .i64 t62.2.1)), .c (.sc (.bool (z3 t13)))] 93, .ex false [.c (.sc (.bool t12.1)), .c (.sc (.int .u64 (p2 t62))), .c (.sc (.int .i64 (p3 t62))), .c (.sc (.bool (z3 t12)))] 93], 0⟩) (fun t62 => (.br (.call true [] (Int) halterref02_Round.R (fun t83 => (.adj [] (.adj [.drop 0] .nil)))) (.br (.call true [] (Int) halterref02_Round.R (fun t85 => (.adj [] (.adj [.drop 0] .nil)))) (.br (.br (oT 2 (.one false (.call true [] (Int) halterref02_Round.R (fun t88 => (.adj [] (.adj [.drop 0] .nil)))))) (oF 3 (.call true [] (Int) halterref02_Round.R (fun t89 => (.adj [] (.adj [.drop 0] .nil)))))) (.br (oT 3 (aE 2 (.adj [.drop 0] .nil))) (oF 3 (.call true [] (Int) halterref02_Round.R (fun t91 => (.adj [] (.adj [.drop 0] .nil)))))))))))))) (oF 5 (.br (oT 4 (.one false (.one true (.one false (.br (aE 5 (.adj [.keep [5, 6, 7]] (.sub (TY0) (fun _ => (.exit 0)) (fun t135 => ⟨[.any, .any, .any, .any, .any, .v (.one (.ptr 0 ⟨0, 0, 0, 0⟩)), .v (.one (.ptr 1 ⟨0, 0, 0, 0⟩)), .v (.one (.sc (.bool (z4 t135)))), .any, .any, .any, .any, .any, .any, .any, .any, .any, .any, .any, .any, .any, .any, .any, .any, .any, .any, .any, .any, .any, .any, .any, .any, .any, .any, .any, .any, .any, .any, .any, .any, .any, .any, .any, .any, .any, .any, .any, .any, .any, .any, .any, .any, .any, .any, .any, .any, .any, .any, .any, .any, .any, .any, .any, .any, .any, .any, .any, .any, .any, .any, .any, .any, .any, .any, .any, .any, .any, .any, .any, .any, .any, .any, .any, .any, .any, .any, .any, .any, .any, .any, .any, .any, .any, .any, .any, .any, .any, .any, .any, .any, .any, .any, .any, .any, .any, .any, .any, .any, .any, .any, .any, .any, .any, .any, .any, .any, .any, .any, .any, .any, .any, .any, .any, .any, .any, .any, .any, .any, .any, .any, .any, .any, .any, .any, .any, .any, .any, .any, .any, .any, .any, .any, .any, .any, .any, .any, .any, .any, .any, .any, .any, .any, .any, .any, .any, .any, .any, .any, .any, .any, .any, .any, .any, .any, .any, .any, .any, .any, .any, .any, .any, .any, .any, .any, .any, .any, .any, .any, .any, .any, .any, .any, .any, .any, .any, .any, .any, .any, .any, .any, .any], [.ex false [.c (.sc (.bool t13.1)), .c (.sc (.int .u64 t135.1)), .c (.sc (.int .i64 t135.2.1)), .c (.sc (.bool (z3 t13)))] 93, .ex false [.c (.sc (.bool t12.1)), .c (.sc (.int .u64 (p2 t135))), .c (.sc (.int .i64 (p3 t135))), .c (.sc (.bool (z3 t12)))] 93], 0⟩) (fun t135 => (.br (.call true [] (Int) halterref02_Round.R (fun t156 => (.adj [] (.adj [.drop 0] .nil)))) (.br (.call true [] (Int) halterref02_Round.R (fun t158 => (.adj [] (.adj [.drop 0] .nil)))) (.br (.br (oT 2 (.one false (.call true [] (Int) halterref02_Round.R (fun t161 => (.adj [] (.adj [.drop 0] .nil)))))) (oF 3 (.call true [] (Int) halterref02_Round.R (fun t162 => (.adj [] (.adj [.drop 0] .nil)))))) (.br (oT 3 (aE 2 (.adj [.drop 0] .nil))) (oF 3 (.call true [] (Int) halterref02_Round.R (fun t164 => (.adj [] (.adj [.drop 0] .nil))))))))))))) (aE 5 (.adj [.keep [5, 6, 7]] (.sub (TY0) (fun _ => (.exit 0)) (fun t206 => ⟨[.any, .any, .any, .any, .any, .v (.one (.ptr 0 ⟨0, 0, 0, 0⟩)), .v (.one (.ptr 1 ⟨0, 0, 0, 0⟩)), .v (.one (.sc (.bool (z4 t206)))), .any, .any, .any, .any, .any, .any, .any, .any, .any, .any, .any, .any, .any, .any, .any, .any, .any, .any, .any, .any, .any, .any, .any, .any, .any, .any, .any, .any, .any, .any, .any, .any, .any, .any, .any, .any, .any, .any, .any, .any, .any, .any, .any, .any, .any, .any, .any, .any, .any, .any, .any, .any, .any, .any, .any, .any, .any, .any, .any, .any, .any, .any, .any, .any, .any, .any, .any, .any, .any, .any, .any, .any, .any, .any, .any, .any, .any, .any, .any, .any, .any, .any, .any, .any, .any, .any, .any, .any, .any, .any, .any, .any, .any, .any, .any, .any, .any, .any, .any, .any, .any, .any, .any, .any, .any, .any, .any, .any, .any, .any, .any, .any, .any, .any, .any, .any, .any, .any, .any, .any, .any, .any, .any, .any, .any, .any, .any, .any, .any, .any, .any, .any, .any, .any, .any, .any, .any, .any, .any, .any, .any, .any, .any, .any, .any, .any, .any, .any, .any, .any, .any, .any, .any, .any, .any, .any, .any, .any, .any, .any, .any, .any, .any, .any, .any, .any, .any, .any, .any, .any, .any, .any, .any, .any, .any, .any, .any, .any, .any, .any, .any, .any, .any], [.ex false [.c (.sc (.bool t12.1)), .c (.sc (.int .u64 t206.1)), .c (.sc (.int .i64 t206.2.1)), .c (.sc (.bool (z3 t12)))] 93, .ex false [.c (.sc (.bool t13.1)), .c (.sc (.int .u64 (p2 t206))), .c (.sc (.int .i64 (p3 t206))), .c (.sc (.bool (z3 t13)))] 93], 0⟩) (fun t206 => (.br (.call true [] (Int) halterref02_Round.R (fun t227 => (.adj [] (.adj [.drop 0] .nil)))) (.br (.call true [] (Int) halterref02_Round.R (fun t229 => (.adj [] (.adj [.drop 0] .nil)))) (.br (.br (oT 2 (.one false (.call true [] (Int) halterref02_Round.R (fun t232 => (.adj [] (.adj [.drop 0] .nil)))))) (oF 3 (.call true [] (Int) halterref02_Round.R (fun t233 => (.adj [] (.adj [.drop 0] .nil)))))) (.br (oT 3 (aE 2 (.adj [.drop 0] .nil))) (oF 3 (.call true [] (Int) halterref02_Round.R (fun t235 => (.adj [] (.adj [.drop 0] .nil)))))))))))))))))) (oF 8 (aE 5 (.adj [.keep [5, 6, 7]] (.sub (TY0) (fun _ => (.exit 0)) (fun t277 => ⟨[.any, .any, .any, .any, .any, .v (.one (.ptr 0 ⟨0, 0, 0, 0⟩)), .v (.one (.ptr 1 ⟨0, 0, 0, 0⟩)), .v (.one (.sc (.bool (z4 t277)))), .any, .any, .any, .any, .any, .any, .any, .any, .any, .any, .any, .any, .any, .any, .any, .any, .any, .any, .any, .any, .any, .any, .any, .any, .any, .any, .any, .any, .any, .any, .any, .any, .any, .any, .any, .any, .any, .any, .any, .any, .any, .any, .any, .any, .any, .any, .any, .any, .any, .any, .any, .any, .any, .any, .any, .any, .any, .any, .any, .any, .any, .any, .any, .any, .any, .any, .any, .any, .any, .any, .any, .any, .any, .any, .any, .any, .any, .any, .any, .any, .any, .any, .any, .any, .any, .any, .any, .any, .any, .any, .any, .any, .any, .any, .any, .any, .any, .any, .any, .any, .any, .any, .any, .any, .any, .any, .any, .any, .any, .any, .any, .any, .any, .any, .any, .any, .any, .any, .any, .any, .any, .any, .any, .any, .any, .any, .any, .any, .any, .any, .any, .any, .any, .any, .any, .any, .any, .any, .any, .any, .any, .any, .any, .any, .any, .any, .any, .any, .any, .any, .any, .any, .any, .any, .any, .any, .any, .any, .any, .any, .any, .any, .any, .any, .any, .any, .any, .any, .any, .any, .any, .any, .any, .any, .any, .any, .any, .any, .any, .any, .any, .any, .any], [.ex false [.c (.sc (.bool t12.1)), .c (.sc (.int .u64 t277.1)), .c (.sc (.int .i64 t277.2.1)), .c (.sc (.bool (z3 t12)))] 93, .ex false [.c (.sc (.bool t13.1)), .c (.sc (.int .u64 (p2 t277))), .c (.sc (.int .i64 (p3 t277))), .c (.sc (.bool (z3 t13)))] 93], 0⟩) (fun t277 => (.br (.call true [] (Int) halterref02_Round.R (fun t298 => (.adj [] (.adj [.drop 0] .nil)))) (.br (.call true [] (Int) halterref02_Round.R (fun t300 => (.adj [] (.adj [.drop 0] .nil)))) (.br (.br (oT 2 (.one false (.call true [] (Int) halterref02_Round.R (fun t303 => (.adj [] (.adj [.drop 0] .nil)))))) (oF 3 (.call true [] (Int) halterref02_Round.R (fun t304 => (.adj [] (.adj [.drop 0] .nil)))))) (.br (oT 3 (aE 2 (.adj [.drop 0] .nil))) (oF 3 (.call true [] (Int) halterref02_Round.R (fun t306 => (.adj [] (.adj [.drop 0] .nil)))))))))))))))))))))))))))))))))) (to_goal (q := (∃ t1 : Bool, (Fun cfg 59 [.one (.sc (.int .u64 a0)), .one (.sc (.int .u64 a1))] [] (halterref02_none.R t1) [] ∧ True) ∧ ((t1 = true → (True ∧ (True ∧ ((True) ∧ (True) ∧ (.v (.one (.sc (.int .u64 (9221120237041090560 : Int)))) : Tm) = halterref02_Add.R r ∧ ([] : List Box) = [])))) ∧ (t1 = false → (∃ t3 : Int, (Fun cfg 36 [.one (.sc (.int .u64 a0))] [] (halterref02_Class.R t3) [] ∧ True) ∧ (True) ∧ (((t3 == (3 : Int)) = true → (∃ t5 : Int, (Fun cfg 36 [.one (.sc (.int .u64 a1))] [] (halterref02_Class.R t5) [] ∧ True) ∧ (True) ∧ (((t5 == (3 : Int)) = true → ((t5 == (3 : Int)) = true ∧ (∃ t7 : Bool, (Fun cfg 60 [.one (.sc (.int .u64 a0))] [] (halterref02_Neg.R t7) [] ∧ True) ∧ ((t5 == (3 : Int)) = true ∧ ((t5 == (3 : Int)) = true ∧ (∃ t8 : Bool, (Fun cfg 60 [.one (.sc (.int .u64 a1))] [] (halterref02_Neg.R t8) [] ∧ True) ∧ ((t5 == (3 : Int)) = true ∧ (True) ∧ ((t5 == (3 : Int)) = true ∧ (((!(t7 == t8)) = true → (True ∧ (True ∧ ((True) ∧ (True) ∧ (.v (.one (.sc (.int .u64 (9221120237041090560 : Int)))) : Tm) = halterref02_Add.R r ∧ ([] : List Box) = [])))) ∧ ((!(t7 == t8)) = false → (True ∧ (True ∧ (True ∧ ((True) ∧ (True) ∧ (.v (.one (.sc (.int .u64 a0))) : Tm) = halterref02_Add.R r ∧ ([] : List Box) = [])))))))))))))) ∧ ((t5 == (3 : Int)) = false → ((t5 == (3 : Int)) = false ∧ ((t5 == (3 : Int)) = false ∧ ((t5 == (3 : Int)) = false ∧ ((t5 == (3 : Int)) = false ∧ ((t5 == (3 : Int)) = false ∧ (false = false ∧ (True ∧ (True ∧ (True ∧ ((True) ∧ (True) ∧ (.v (.one (.sc (.int .u64 a0))) : Tm) = halterref02_Add.R r ∧ ([] : List Box) = [])))))))))))))) ∧ ((t3 == (3 : Int)) = false → (∃ t10 : Int, (Fun cfg 36 [.one (.sc (.int .u64 a1))] [] (halterref02_Class.R t10) [] ∧ True) ∧ (True) ∧ (((t10 == (3 : Int)) = true → (True ∧ (True ∧ ((True) ∧ (True) ∧ (.v (.one (.sc (.int .u64 a1))) : Tm) = halterref02_Add.R r ∧ ([] : List Box) = [])))) ∧ ((t10 == (3 : Int)) = false → (∃ t12 : Bool × Int × Int × Bool, (Fun cfg 61 [.one (.sc (.int .u64 a0))] [] (halterref02_Open.R t12) [] ∧ True) ∧ (∃ t13 : Bool × Int × Int × Bool, (Fun cfg 61 [.one (.sc (.int .u64 a1))] [] (halterref02_Open.R t13) [] ∧ True) ∧ (True) ∧ (True) ∧ (True) ∧ (True) ∧ (((t12.2.1 == (0 : Int)) = true → ((t12.2.1 == (0 : Int)) = true ∧ (True) ∧ ((t12.2.1 == (0 : Int)) = true ∧ (True) ∧ ((t12.2.1 == (0 : Int)) = true ∧ (((t13.2.1 == (0 : Int)) = true → (True) ∧ ((t12.1 = true → (t12.1 = true ∧ (True) ∧ (t12.1 = true ∧ (∃ t17 : Int, (Fun cfg 62 [.one (.sc (.bool t13.1)), .one (.sc (.int .u64 (0 : Int)))] [] (halterref02_signed.R t17) [] ∧ True) ∧ (True ∧ ((True) ∧ ((True) ∧ True) ∧ (.v (.one (.sc (.int .u64 t17))) : Tm) = halterref02_Add.R r ∧ ([] : List Box) = [])))))) ∧ (t12.1 = false → (t12.1 = false ∧ (t12.1 = false ∧ (∃ t18 : Int, (Fun cfg 62 [.one (.sc (.bool false)), .one (.sc (.int .u64 (0 : Int)))] [] (halterref02_signed.R t18) [] ∧ True) ∧ (True ∧ ((True) ∧ ((True) ∧ True) ∧ (.v (.one (.sc (.int .u64 t18))) : Tm) = halterref02_Add.R r ∧ ([] : List Box) = [])))))))) ∧ ((t13.2.1 == (0 : Int)) = false → (True) ∧ (True) ∧ ((t12.2.1 == (0 : Int)) = true ∧ (True ∧ (True ∧ ((True) ∧ ((True) ∧ True) ∧ (.v (.one (.sc (.int .u64 a1))) : Tm) = halterref02_Add.R r ∧ ([] : List Box) = [])))))))))) ∧ ((t12.2.1 == (0 : Int)) = false → ((t12.2.1 == (0 : Int)) = false ∧ ((t12.2.1 == (0 : Int)) = false ∧ ((t12.2.1 == (0 : Int)) = false ∧ (false = false ∧ (True) ∧ (True) ∧ ((t12.2.1 == (0 : Int)) = false ∧ (True) ∧ (True) ∧ (((t13.2.1 == (0 : Int)) = true → (True ∧ (True ∧ ((True) ∧ ((True) ∧ True) ∧ (.v (.one (.sc (.int .u64 a0))) : Tm) = halterref02_Add.R r ∧ ([] : List Box) = [])))) ∧ ((t13.2.1 == (0 : Int)) = false → (True) ∧ (True) ∧ (True) ∧ (((decide ((p2 t12) < (p2 t13))) = false → ((decide ((p2 t12) < (p2 t13))) = false ∧ (True) ∧ ((decide ((p2 t12) < (p2 t13))) = false ∧ ((decide ((p2 t12) < (p2 t13))) = false ∧ (True) ∧ ((decide ((p2 t12) < (p2 t13))) = false ∧ (True) ∧ ((decide ((p2 t12) < (p2 t13))) = false ∧ ((((p2 t12) == (p2 t13)) = true → (((p2 t12) == (p2 t13)) = true ∧ (True) ∧ (((p2 t12) == (p2 t13)) = true ∧ (((p2 t12) == (p2 t13)) = true ∧ (True) ∧ (((p2 t12) == (p2 t13)) = true ∧ (True) ∧ ((decide ((p2 t12) < (p2 t13))) = false ∧ (((p2 t12) == (p2 t13)) = true ∧ ((decide ((p2 t12) < (p2 t13))) = false ∧ (((decide (t12.2.1 < t13.2.1)) = true → (True ∧ (True) ∧ (True) ∧ (True) ∧ (True) ∧ (True ∧ (True) ∧ (True) ∧ (True) ∧ (True) ∧ (True) ∧ (True) ∧ (True ∧ (True) ∧ (True) ∧ (True) ∧ (True) ∧ (True) ∧ (True) ∧ (True ∧ (True ∧ (((True) ∧ True) ∧ (∃ t135 : TY0, Trip cfg (.loop (cpath (Tryd.f35.body.getD .skip) [1, 1, 1, 1, 1, 1, 1, 1, 1, 1, 1, 1, 0, 0, 0])) ⟨[.any, .any, .any, .any, .any, .v (.one (.ptr 0 ⟨0, 0, 0, 0⟩)), .v (.one (.ptr 1 ⟨0, 0, 0, 0⟩)), .v (.one (.sc (.bool false))), .any, .any, .any, .any, .any, .any, .any, .any, .any, .any, .any, .any, .any, .any, .any, .any, .any, .any, .any, .any, .any, .any, .any, .any, .any, .any, .any, .any, .any, .any, .any, .any, .any, .any, .any, .any, .any, .any, .any, .any, .any, .any, .any, .any, .any, .any, .any, .any, .any, .any, .any, .any, .any, .any, .any, .any, .any, .any, .any, .any, .any, .any, .any, .any, .any, .any, .any, .any, .any, .any, .any, .any, .any, .any, .any, .any, .any, .any, .any, .any, .any, .any, .any, .any, .any, .any, .any, .any, .any, .any, .any, .any, .any, .any, .any, .any, .any, .any, .any, .any, .any, .any, .any, .any, .any, .any, .any, .any, .any, .any, .any, .any, .any, .any, .any, .any, .any, .any, .any, .any, .any, .any, .any, .any, .any, .any, .any, .any, .any, .any, .any, .any, .any, .any, .any, .any, .any, .any, .any, .any, .any, .any, .any, .any, .any, .any, .any, .any, .any, .any, .any, .any, .any, .any, .any, .any, .any, .any, .any, .any, .any, .any, .any, .any, .any, .any, .any, .any, .any, .any, .any, .any, .any, .any, .any, .any, .any, .any, .any, .any, .any, .any, .any], [.ex false [.c (.sc (.bool t13.1)), .c (.sc (.int .u64 (IntKind.wrap .u64 ((256 : Int) * t13.2.1)))), .c (.sc (.int .i64 (IntKind.wrap .i64 ((p2 t13) - (8 : Int))))), .c (.sc (.bool (z3 t13)))] 93, .ex false [.c (.sc (.bool t12.1)), .c (.sc (.int .u64 (IntKind.wrap .u64 ((256 : Int) * t12.2.1)))), .c (.sc (.int .i64 (IntKind.wrap .i64 ((p2 t12) - (8 : Int))))), .c (.sc (.bool (z3 t12)))] 93], 0⟩ (fun e s => e = (.exit 0) ∧ s = ⟨[.any, .any, .any, .any, .any, .v (.one (.ptr 0 ⟨0, 0, 0, 0⟩)), .v (.one (.ptr 1 ⟨0, 0, 0, 0⟩)), .v (.one (.sc (.bool (z4 t135)))), .any, .any, .any, .any, .any, .any, .any, .any, .any, .any, .any, .any, .any, .any, .any, .any, .any, .any, .any, .any, .any, .any, .any, .any, .any, .any, .any, .any, .any, .any, .any, .any, .any, .any, .any, .any, .any, .any, .any, .any, .any, .any, .any, .any, .any, .any, .any, .any, .any, .any, .any, .any, .any, .any, .any, .any, .any, .any, .any, .any, .any, .any, .any, .any, .any, .any, .any, .any, .any, .any, .any, .any, .any, .any, .any, .any, .any, .any, .any, .any, .any, .any, .any, .any, .any, .any, .any, .any, .any, .any, .any, .any, .any, .any, .any, .any, .any, .any, .any, .any, .any, .any, .any, .any, .any, .any, .any, .any, .any, .any, .any, .any, .any, .any, .any, .any, .any, .any, .any, .any, .any, .any, .any, .any, .any, .any, .any, .any, .any, .any, .any, .any, .any, .any, .any, .any, .any, .any, .any, .any, .any, .any, .any, .any, .any, .any, .any, .any, .any, .any, .any, .any, .any, .any, .any, .any, .any, .any, .any, .any, .any, .any, .any, .any, .any, .any, .any, .any, .any, .any, .any, .any, .any, .any, .any, .any, .any, .any, .any, .any, .any, .any, .any], [.ex false [.c (.sc (.bool t13.1)), .c (.sc (.int .u64 t135.1)), .c (.sc (.int .i64 t135.2.1)), .c (.sc (.bool (z3 t13)))] 93, .ex false [.c (.sc (.bool t12.1)), .c (.sc (.int .u64 (p2 t135))), .c (.sc (.int .i64 (p3 t135))), .c (.sc (.bool (z3 t12)))] 93], 0⟩) ∧ (True) ∧ (True) ∧ (True) ∧ (((t13.1 == t12.1) = true → (True) ∧ (True) ∧ (True) ∧ (True) ∧ (True) ∧ (∃ t156 : Int, (Fun cfg 63 [.agg [.c (.sc (.bool t13.1)), .c (.sc (.int .u64 (IntKind.wrap .u64 (t135.1 + (p2 t135))))), .c (.sc (.int .i64 t135.2.1)), .c (.sc (.bool (z4 t135)))]] [] (halterref02_Round.R t156) [] ∧ True) ∧ (True ∧ ((True) ∧ ((True) ∧ True) ∧ (.v (.one (.sc (.int .u64 t156))) : Tm) = halterref02_Add.R r ∧ ([] : List Box) = [])))) ∧ ((t13.1 == t12.1) = false → (True) ∧ (True) ∧ (True) ∧ (((decide (t135.1 < (p2 t135))) = true → (True) ∧ (True) ∧ (True) ∧ (True) ∧ (True) ∧ (∃ t158 : Int, (Fun cfg 63 [.agg [.c (.sc (.bool t12.1)), .c (.sc (.int .u64 (IntKind.wrap .u64 ((p2 t135) - t135.1)))), .c (.sc (.int .i64 t135.2.1)), .c (.sc (.bool false))]] [] (halterref02_Round.R t158) [] ∧ True) ∧ (True ∧ ((True) ∧ ((True) ∧ True) ∧ (.v (.one (.sc (.int .u64 t158))) : Tm) = halterref02_Add.R r ∧ ([] : List Box) = [])))) ∧ ((decide (t135.1 < (p2 t135))) = false → (True) ∧ (True) ∧ (True) ∧ (((z4 t135) = true → (True) ∧ (True) ∧ ((((IntKind.wrap .u64 ((IntKind.wrap .u64 (t135.1 - (p2 t135))) - (1 : Int))) == (0 : Int)) = true → (((IntKind.wrap .u64 ((IntKind.wrap .u64 (t135.1 - (p2 t135))) - (1 : Int))) == (0 : Int)) = true ∧ (((IntKind.wrap .u64 ((IntKind.wrap .u64 (t135.1 - (p2 t135))) - (1 : Int))) == (0 : Int)) = true ∧ ((!(z4 t135)) = false ∧ (True) ∧ (True) ∧ (∃ t161 : Int, (Fun cfg 63 [.agg [.c (.sc (.bool t13.1)), .c (.sc (.int .u64 (IntKind.wrap .u64 ((IntKind.wrap .u64 (t135.1 - (p2 t135))) - (1 : Int))))), .c (.sc (.int .i64 t135.2.1)), .c (.sc (.bool (z4 t135)))]] [] (halterref02_Round.R t161) [] ∧ True) ∧ (True ∧ ((True) ∧ ((True) ∧ True) ∧ (.v (.one (.sc (.int .u64 t161))) : Tm) = halterref02_Add.R r ∧ ([] : List Box) = []))))))) ∧ (((IntKind.wrap .u64 ((IntKind.wrap .u64 (t135.1 - (p2 t135))) - (1 : Int))) == (0 : Int)) = false → (((IntKind.wrap .u64 ((IntKind.wrap .u64 (t135.1 - (p2 t135))) - (1 : Int))) == (0 : Int)) = false ∧ (((IntKind.wrap .u64 ((IntKind.wrap .u64 (t135.1 - (p2 t135))) - (1 : Int))) == (0 : Int)) = false ∧ (false = false ∧ (True) ∧ (True) ∧ (∃ t162 : Int, (Fun cfg 63 [.agg [.c (.sc (.bool t13.1)), .c (.sc (.int .u64 (IntKind.wrap .u64 ((IntKind.wrap .u64 (t135.1 - (p2 t135))) - (1 : Int))))), .c (.sc (.int .i64 t135.2.1)), .c (.sc (.bool (z4 t135)))]] [] (halterref02_Round.R t162) [] ∧ True) ∧ (True ∧ ((True) ∧ ((True) ∧ True) ∧ (.v (.one (.sc (.int .u64 t162))) : Tm) = halterref02_Add.R r ∧ ([] : List Box) = []))))))))) ∧ ((z4 t135) = false → (True) ∧ ((((IntKind.wrap .u64 (t135.1 - (p2 t135))) == (0 : Int)) = true → (((IntKind.wrap .u64 (t135.1 - (p2 t135))) == (0 : Int)) = true ∧ (((IntKind.wrap .u64 (t135.1 - (p2 t135))) == (0 : Int)) = true ∧ ((!(z4 t135)) = true ∧ (True ∧ (True ∧ ((True) ∧ ((True) ∧ True) ∧ (.v (.one (.sc (.int .u64 (0 : Int)))) : Tm) = halterref02_Add.R r ∧ ([] : List Box) = []))))))) ∧ (((IntKind.wrap .u64 (t135.1 - (p2 t135))) == (0 : Int)) = false → (((IntKind.wrap .u64 (t135.1 - (p2 t135))) == (0 : Int)) = false ∧ (((IntKind.wrap .u64 (t135.1 - (p2 t135))) == (0 : Int)) = false ∧ (false = false ∧ (True) ∧ (True) ∧ (∃ t164 : Int, (Fun cfg 63 [.agg [.c (.sc (.bool t13.1)), .c (.sc (.int .u64 (IntKind.wrap .u64 (t135.1 - (p2 t135))))), .c (.sc (.int .i64 t135.2.1)), .c (.sc (.bool (z4 t135)))]] [] (halterref02_Round.R t164) [] ∧ True) ∧ (True ∧ ((True) ∧ ((True) ∧ True) ∧ (.v (.one (.sc (.int .u64 t164))) : Tm) = halterref02_Add.R r ∧ ([] : List Box) = [])))))))))))))))))))))) ∧ ((decide (t12.2.1 < t13.2.1)) = false → (True ∧ (True ∧ (True) ∧ (True) ∧ (True) ∧ (True) ∧ (True) ∧ (True) ∧ (True ∧ (True) ∧ (True) ∧ (True) ∧ (True) ∧ (True) ∧ (True) ∧ (True ∧ (True ∧ (((True) ∧ True) ∧ (∃ t206 : TY0, Trip cfg (.loop (cpath (Tryd.f35.body.getD .skip) [1, 1, 1, 1, 1, 1, 1, 1, 1, 1, 1, 1, 0, 0, 0])) ⟨[.any, .any, .any, .any, .any, .v (.one (.ptr 0 ⟨0, 0, 0, 0⟩)), .v (.one (.ptr 1 ⟨0, 0, 0, 0⟩)), .v (.one (.sc (.bool false))), .any, .any, .any, .any, .any, .any, .any, .any, .any, .any, .any, .any, .any, .any, .any, .any, .any, .any, .any, .any, .any, .any, .any, .any, .any, .any, .any, .any, .any, .any, .any, .any, .any, .any, .any, .any, .any, .any, .any, .any, .any, .any, .any, .any, .any, .any, .any, .any, .any, .any, .any, .any, .any, .any, .any, .any, .any, .any, .any, .any, .any, .any, .any, .any, .any, .any, .any, .any, .any, .any, .any, .any, .any, .any, .any, .any, .any, .any, .any, .any, .any, .any, .any, .any, .any, .any, .any, .any, .any, .any, .any, .any, .any, .any, .any, .any, .any, .any, .any, .any, .any, .any, .any, .any, .any, .any, .any, .any, .any, .any, .any, .any, .any, .any, .any, .any, .any, .any, .any, .any, .any, .any, .any, .any, .any, .any, .any, .any, .any, .any, .any, .any, .any, .any, .any, .any, .any, .any, .any, .any, .any, .any, .any, .any, .any, .any, .any, .any, .any, .any, .any, .any, .any, .any, .any, .any, .any, .any, .any, .any, .any, .any, .any, .any, .any, .any, .any, .any, .any, .any, .any, .any, .any, .any, .any, .any, .any, .any, .any, .any, .any, .any, .any], [.ex false [.c (.sc (.bool t12.1)), .c (.sc (.int .u64 (IntKind.wrap .u64 ((256 : Int) * t12.2.1)))), .c (.sc (.int .i64 (IntKind.wrap .i64 ((p2 t12) - (8 : Int))))), .c (.sc (.bool (z3 t12)))] 93, .ex false [.c (.sc (.bool t13.1)), .c (.sc (.int .u64 (IntKind.wrap .u64 ((256 : Int) * t13.2.1)))), .c (.sc (.int .i64 (IntKind.wrap .i64 ((p2 t13) - (8 : Int))))), .c (.sc (.bool (z3 t13)))] 93], 0⟩ (fun e s => e = (.exit 0) ∧ s = ⟨[.any, .any, .any, .any, .any, .v (.one (.ptr 0 ⟨0, 0, 0, 0⟩)), .v (.one (.ptr 1 ⟨0, 0, 0, 0⟩)), .v (.one (.sc (.bool (z4 t206)))), .any, .any, .any, .any, .any, .any, .any, .any, .any, .any, .any, .any, .any, .any, .any, .any, .any, .any, .any, .any, .any, .any, .any, .any, .any, .any, .any, .any, .any, .any, .any, .any, .any, .any, .any, .any, .any, .any, .any, .any, .any, .any, .any, .any, .any, .any, .any, .any, .any, .any, .any, .any, .any, .any, .any, .any, .any, .any, .any, .any, .any, .any, .any, .any, .any, .any, .any, .any, .any, .any, .any, .any, .any, .any, .any, .any, .any, .any, .any, .any, .any, .any, .any, .any, .any, .any, .any, .any, .any, .any, .any, .any, .any, .any, .any, .any, .any, .any, .any, .any, .any, .any, .any, .any, .any, .any, .any, .any, .any, .any, .any, .any, .any, .any, .any, .any, .any, .any, .any, .any, .any, .any, .any, .any, .any, .any, .any, .any, .any, .any, .any, .any, .any, .any, .any, .any, .any, .any, .any, .any, .any, .any, .any, .any, .any, .any, .any, .any, .any, .any, .any, .any, .any, .any, .any, .any, .any, .any, .any, .any, .any, .any, .any, .any, .any, .any, .any, .any, .any, .any, .any, .any, .any, .any, .any, .any, .any, .any, .any, .any, .any, .any, .any], [.ex false [.c (.sc (.bool t12.1)), .c (.sc (.int .u64 t206.1)), .c (.sc (.int .i64 t206.2.1)), .c (.sc (.bool (z3 t12)))] 93, .ex false [.c (.sc (.bool t13.1)), .c (.sc (.int .u64 (p2 t206))), .c (.sc (.int .i64 (p3 t206))), .c (.sc (.bool (z3 t13)))] 93], 0⟩) ∧ (True) ∧ (True) ∧ (True) ∧ (((t12.1 == t13.1) = true → (True) ∧ (True) ∧ (True) ∧ (True) ∧ (True) ∧ (∃ t227 : Int, (Fun cfg 63 [.agg [.c (.sc (.bool t12.1)), .c (.sc (.int .u64 (IntKind.wrap .u64 (t206.1 + (p2 t206))))), .c (.sc (.int .i64 t206.2.1)), .c (.sc (.bool (z4 t206)))]] [] (halterref02_Round.R t227) [] ∧ True) ∧ (True ∧ ((True) ∧ ((True) ∧ True) ∧ (.v (.one (.sc (.int .u64 t227))) : Tm) = halterref02_Add.R r ∧ ([] : List Box) = [])))) ∧ ((t12.1 == t13.1) = false → (True) ∧ (True) ∧ (True) ∧ (((decide (t206.1 < (p2 t206))) = true → (True) ∧ (True) ∧ (True) ∧ (True) ∧ (True) ∧ (∃ t229 : Int, (Fun cfg 63 [.agg [.c (.sc (.bool t13.1)), .c (.sc (.int .u64 (IntKind.wrap .u64 ((p2 t206) - t206.1)))), .c (.sc (.int .i64 t206.2.1)), .c (.sc (.bool false))]] [] (halterref02_Round.R t229) [] ∧ True) ∧ (True ∧ ((True) ∧ ((True) ∧ True) ∧ (.v (.one (.sc (.int .u64 t229))) : Tm) = halterref02_Add.R r ∧ ([] : List Box) = [])))) ∧ ((decide (t206.1 < (p2 t206))) = false → (True) ∧ (True) ∧ (True) ∧ (((z4 t206) = true → (True) ∧ (True) ∧ ((((IntKind.wrap .u64 ((IntKind.wrap .u64 (t206.1 - (p2 t206))) - (1 : Int))) == (0 : Int)) = true → (((IntKind.wrap .u64 ((IntKind.wrap .u64 (t206.1 - (p2 t206))) - (1 : Int))) == (0 : Int)) = true ∧ (((IntKind.wrap .u64 ((IntKind.wrap .u64 (t206.1 - (p2 t206))) - (1 : Int))) == (0 : Int)) = true ∧ ((!(z4 t206)) = false ∧ (True) ∧ (True) ∧ (∃ t232 : Int, (Fun cfg 63 [.agg [.c (.sc (.bool t12.1)), .c (.sc (.int .u64 (IntKind.wrap .u64 ((IntKind.wrap .u64 (t206.1 - (p2 t206))) - (1 : Int))))), .c (.sc (.int .i64 t206.2.1)), .c (.sc (.bool (z4 t206)))]] [] (halterref02_Round.R t232) [] ∧ True) ∧ (True ∧ ((True) ∧ ((True) ∧ True) ∧ (.v (.one (.sc (.int .u64 t232))) : Tm) = halterref02_Add.R r ∧ ([] : List Box) = []))))))) ∧ (((IntKind.wrap .u64 ((IntKind.wrap .u64 (t206.1 - (p2 t206))) - (1 : Int))) == (0 : Int)) = false → (((IntKind.wrap .u64 ((IntKind.wrap .u64 (t206.1 - (p2 t206))) - (1 : Int))) == (0 : Int)) = false ∧ (((IntKind.wrap .u64 ((IntKind.wrap .u64 (t206.1 - (p2 t206))) - (1 : Int))) == (0 : Int)) = false ∧ (false = false ∧ (True) ∧ (True) ∧ (∃ t233 : Int, (Fun cfg 63 [.agg [.c (.sc (.bool t12.1)), .c (.sc (.int .u64 (IntKind.wrap .u64 ((IntKind.wrap .u64 (t206.1 - (p2 t206))) - (1 : Int))))), .c (.sc (.int .i64 t206.2.1)), .c (.sc (.bool (z4 t206)))]] [] (halterref02_Round.R t233) [] ∧ True) ∧ (True ∧ ((True) ∧ ((True) ∧ True) ∧ (.v (.one (.sc (.int .u64 t233))) : Tm) = halterref02_Add.R r ∧ ([] : List Box) = []))))))))) ∧ ((z4 t206) = false → (True) ∧ ((((IntKind.wrap .u64 (t206.1 - (p2 t206))) == (0 : Int)) = true → (((IntKind.wrap .u64 (t206.1 - (p2 t206))) == (0 : Int)) = true ∧ (((IntKind.wrap .u64 (t206.1 - (p2 t206))) == (0 : Int)) = true ∧ ((!(z4 t206)) = true ∧ (True ∧ (True ∧ ((True) ∧ ((True) ∧ True) ∧ (.v (.one (.sc (.int .u64 (0 : Int)))) : Tm) = halterref02_Add.R r ∧ ([] : List Box) = []))))))) ∧ (((IntKind.wrap .u64 (t206.1 - (p2 t206))) == (0 : Int)) = false → (((IntKind.wrap .u64 (t206.1 - (p2 t206))) == (0 : Int)) = false ∧ (((IntKind.wrap .u64 (t206.1 - (p2 t206))) == (0 : Int)) = false ∧ (false = false ∧ (True) ∧ (True) ∧ (∃ t235 : Int, (Fun cfg 63 [.agg [.c (.sc (.bool t12.1)), .c (.sc (.int .u64 (IntKind.wrap .u64 (t206.1 - (p2 t206))))), .c (.sc (.int .i64 t206.2.1)), .c (.sc (.bool (z4 t206)))]] [] (halterref02_Round.R t235) [] ∧ True) ∧ (True ∧ ((True) ∧ ((True) ∧ True) ∧ (.v (.one (.sc (.int .u64 t235))) : Tm) = halterref02_Add.R r ∧ ([] : List Box) = []))))))))))))))))))))))))))))))) ∧ (((p2 t12) == (p2 t13)) = false → (((p2 t12) == (p2 t13)) = false ∧ (((p2 t12) == (p2 t13)) = false ∧ (((p2 t12) == (p2 t13)) = false ∧ (((p2 t12) == (p2 t13)) = false ∧ ((decide ((p2 t12) < (p2 t13))) = false ∧ (((p2 t12) == (p2 t13)) = false ∧ ((decide ((p2 t12) < (p2 t13))) = false ∧ (false = false ∧ (True ∧ (True ∧ (True) ∧ (True) ∧ (True) ∧ (True) ∧ (True) ∧ (True) ∧ (True ∧ (True) ∧ (True) ∧ (True) ∧ (True) ∧ (True) ∧ (True) ∧ (True ∧ (True ∧ (((True) ∧ True) ∧ (∃ t277 : TY0, Trip cfg (.loop (cpath (Tryd.f35.body.getD .skip) [1, 1, 1, 1, 1, 1, 1, 1, 1, 1, 1, 1, 0, 0, 0])) ⟨[.any, .any, .any, .any, .any, .v (.one (.ptr 0 ⟨0, 0, 0, 0⟩)), .v (.one (.ptr 1 ⟨0, 0, 0, 0⟩)), .v (.one (.sc (.bool false))), .any, .any, .any, .any, .any, .any, .any, .any, .any, .any, .any, .any, .any, .any, .any, .any, .any, .any, .any, .any, .any, .any, .any, .any, .any, .any, .any, .any, .any, .any, .any, .any, .any, .any, .any, .any, .any, .any, .any, .any, .any, .any, .any, .any, .any, .any, .any, .any, .any, .any, .any, .any, .any, .any, .any, .any, .any, .any, .any, .any, .any, .any, .any, .any, .any, .any, .any, .any, .any, .any, .any, .any, .any, .any, .any, .any, .any, .any, .any, .any, .any, .any, .any, .any, .any, .any, .any, .any, .any, .any, .any, .any, .any, .any, .any, .any, .any, .any, .any, .any, .any, .any, .any, .any, .any, .any, .any, .any, .any, .any, .any, .any, .any, .any, .any, .any, .any, .any, .any, .any, .any, .any, .any, .any, .any, .any, .any, .any, .any, .any, .any, .any, .any, .any, .any, .any, .any, .any, .any, .any, .any, .any, .any, .any, .any, .any, .any, .any, .any, .any, .any, .any, .any, .any, .any, .any, .any, .any, .any, .any, .any, .any, .any, .any, .any, .any, .any, .any, .any, .any, .any, .any, .any, .any, .any, .any, .any, .any, .any, .any, .any, .any, .any], [.ex false [.c (.sc (.bool t12.1)), .c (.sc (.int .u64 (IntKind.wrap .u64 ((256 : Int) * t12.2.1)))), .c (.sc (.int .i64 (IntKind.wrap .i64 ((p2 t12) - (8 : Int))))), .c (.sc (.bool (z3 t12)))] 93, .ex false [.c (.sc (.bool t13.1)), .c (.sc (.int .u64 (IntKind.wrap .u64 ((256 : Int) * t13.2.1)))), .c (.sc (.int .i64 (IntKind.wrap .i64 ((p2 t13) - (8 : Int))))), .c (.sc (.bool (z3 t13)))] 93], 0⟩ (fun e s => e = (.exit 0) ∧ s = ⟨[.any, .any, .any, .any, .any, .v (.one (.ptr 0 ⟨0, 0, 0, 0⟩)), .v (.one (.ptr 1 ⟨0, 0, 0, 0⟩)), .v (.one (.sc (.bool (z4 t277)))), .any, .any, .any, .any, .any, .any, .any, .any, .any, .any, .any, .any, .any, .any, .any, .any, .any, .any, .any, .any, .any, .any, .any, .any, .any, .any, .any, .any, .any, .any, .any, .any, .any, .any, .any, .any, .any, .any, .any, .any, .any, .any, .any, .any, .any, .any, .any, .any, .any, .any, .any, .any, .any, .any, .any, .any, .any, .any, .any, .any, .any, .any, .any, .any, .any, .any, .any, .any, .any, .any, .any, .any, .any, .any, .any, .any, .any, .any, .any, .any, .any, .any, .any, .any, .any, .any, .any, .any, .any, .any, .any, .any, .any, .any, .any, .any, .any, .any, .any, .any, .any, .any, .any, .any, .any, .any, .any, .any, .any, .any, .any, .any, .any, .any, .any, .any, .any, .any, .any, .any, .any, .any, .any, .any, .any, .any, .any, .any, .any, .any, .any, .any, .any, .any, .any, .any, .any, .any, .any, .any, .any, .any, .any, .any, .any, .any, .any, .any, .any, .any, .any, .any, .any, .any, .any, .any, .any, .any, .any, .any, .any, .any, .any, .any, .any, .any, .any, .any, .any, .any, .any, .any, .any, .any, .any, .any, .any, .any, .any, .any, .any, .any, .any], [.ex false [.c (.sc (.bool t12.1)), .c (.sc (.int .u64 t277.1)), .c (.sc (.int .i64 t277.2.1)), .c (.sc (.bool (z3 t12)))] 93, .ex false [.c (.sc (.bool t13.1)), .c (.sc (.int .u64 (p2 t277))), .c (.sc (.int .i64 (p3 t277))), .c (.sc (.bool (z3 t13)))] 93], 0⟩) ∧ (True) ∧ (True) ∧ (True) ∧ (((t12.1 == t13.1) = true → (True) ∧ (True) ∧ (True) ∧ (True) ∧ (True) ∧ (∃ t298 : Int, (Fun cfg 63 [.agg [.c (.sc (.bool t12.1)), .c (.sc (.int .u64 (IntKind.wrap .u64 (t277.1 + (p2 t277))))), .c (.sc (.int .i64 t277.2.1)), .c (.sc (.bool (z4 t277)))]] [] (halterref02_Round.R t298) [] ∧ True) ∧ (True ∧ ((True) ∧ ((True) ∧ True) ∧ (.v (.one (.sc (.int .u64 t298))) : Tm) = halterref02_Add.R r ∧ ([] : List Box) = [])))) ∧ ((t12.1 == t13.1) = false → (True) ∧ (True) ∧ (True) ∧ (((decide (t277.1 < (p2 t277))) = true → (True) ∧ (True) ∧ (True) ∧ (True) ∧ (True) ∧ (∃ t300 : Int, (Fun cfg 63 [.agg [.c (.sc (.bool t13.1)), .c (.sc (.int .u64 (IntKind.wrap .u64 ((p2 t277) - t277.1)))), .c (.sc (.int .i64 t277.2.1)), .c (.sc (.bool false))]] [] (halterref02_Round.R t300) [] ∧ True) ∧ (True ∧ ((True) ∧ ((True) ∧ True) ∧ (.v (.one (.sc (.int .u64 t300))) : Tm) = halterref02_Add.R r ∧ ([] : List Box) = [])))) ∧ ((decide (t277.1 < (p2 t277))) = false → (True) ∧ (True) ∧ (True) ∧ (((z4 t277) = true → (True) ∧ (True) ∧ ((((IntKind.wrap .u64 ((IntKind.wrap .u64 (t277.1 - (p2 t277))) - (1 : Int))) == (0 : Int)) = true → (((IntKind.wrap .u64 ((IntKind.wrap .u64 (t277.1 - (p2 t277))) - (1 : Int))) == (0 : Int)) = true ∧ (((IntKind.wrap .u64 ((IntKind.wrap .u64 (t277.1 - (p2 t277))) - (1 : Int))) == (0 : Int)) = true ∧ ((!(z4 t277)) = false ∧ (True) ∧ (True) ∧ (∃ t303 : Int, (Fun cfg 63 [.agg [.c (.sc (.bool t12.1)), .c (.sc (.int .u64 (IntKind.wrap .u64 ((IntKind.wrap .u64 (t277.1 - (p2 t277))) - (1 : Int))))), .c (.sc (.int .i64 t277.2.1)), .c (.sc (.bool (z4 t277)))]] [] (halterref02_Round.R t303) [] ∧ True) ∧ (True ∧ ((True) ∧ ((True) ∧ True) ∧ (.v (.one (.sc (.int .u64 t303))) : Tm) = halterref02_Add.R r ∧ ([] : List Box) = []))))))) ∧ (((IntKind.wrap .u64 ((IntKind.wrap .u64 (t277.1 - (p2 t277))) - (1 : Int))) == (0 : Int)) = false → (((IntKind.wrap .u64 ((IntKind.wrap .u64 (t277.1 - (p2 t277))) - (1 : Int))) == (0 : Int)) = false ∧ (((IntKind.wrap .u64 ((IntKind.wrap .u64 (t277.1 - (p2 t277))) - (1 : Int))) == (0 : Int)) = false ∧ (false = false ∧ (True) ∧ (True) ∧ (∃ t304 : Int, (Fun cfg 63 [.agg [.c (.sc (.bool t12.1)), .c (.sc (.int .u64 (IntKind.wrap .u64 ((IntKind.wrap .u64 (t277.1 - (p2 t277))) - (1 : Int))))), .c (.sc (.int .i64 t277.2.1)), .c (.sc (.bool (z4 t277)))]] [] (halterref02_Round.R t304) [] ∧ True) ∧ (True ∧ ((True) ∧ ((True) ∧ True) ∧ (.v (.one (.sc (.int .u64 t304))) : Tm) = halterref02_Add.R r ∧ ([] : List Box) = []))))))))) ∧ ((z4 t277) = false → (True) ∧ ((((IntKind.wrap .u64 (t277.1 - (p2 t277))) == (0 : Int)) = true → (((IntKind.wrap .u64 (t277.1 - (p2 t277))) == (0 : Int)) = true ∧ (((IntKind.wrap .u64 (t277.1 - (p2 t277))) == (0 : Int)) = true ∧ ((!(z4 t277)) = true ∧ (True ∧ (True ∧ ((True) ∧ ((True) ∧ True) ∧ (.v (.one (.sc (.int .u64 (0 : Int)))) : Tm) = halterref02_Add.R r ∧ ([] : List Box) = []))))))) ∧ (((IntKind.wrap .u64 (t277.1 - (p2 t277))) == (0 : Int)) = false → (((IntKind.wrap .u64 (t277.1 - (p2 t277))) == (0 : Int)) = false ∧ (((IntKind.wrap .u64 (t277.1 - (p2 t277))) == (0 : Int)) = false ∧ (false = false ∧ (True) ∧ (True) ∧ (∃ t306 : Int, (Fun cfg 63 [.agg [.c (.sc (.bool t12.1)), .c (.sc (.int .u64 (IntKind.wrap .u64 (t277.1 - (p2 t277))))), .c (.sc (.int .i64 t277.2.1)), .c (.sc (.bool (z4 t277)))]] [] (halterref02_Round.R t306) [] ∧ True) ∧ (True ∧ ((True) ∧ ((True) ∧ True) ∧ (.v (.one (.sc (.int .u64 t306))) : Tm) = halterref02_Add.R r ∧ ([] : List Box) = []))))))))))))))))))))))))))))))))))))) ∧ ((decide ((p2 t12) < (p2 t13))) = true → ((decide ((p2 t12) < (p2 t13))) = true ∧ ((decide ((p2 t12) < (p2 t13))) = true ∧ ((decide ((p2 t12) < (p2 t13))) = true ∧ ((decide ((p2 t12) < (p2 t13))) = true ∧ ((decide ((p2 t12) < (p2 t13))) = true ∧ ((decide ((p2 t12) < (p2 t13))) = true ∧ ((decide ((p2 t12) < (p2 t13))) = true ∧ (true = true ∧ (True ∧ (True) ∧ (True) ∧ (True) ∧ (True) ∧ (True ∧ (True) ∧ (True) ∧ (True) ∧ (True) ∧ (True) ∧ (True) ∧ (True ∧ (True) ∧ (True) ∧ (True) ∧ (True) ∧ (True) ∧ (True) ∧ (True ∧ (True ∧ (((True) ∧ True) ∧ (∃ t62 : TY0, Trip cfg (.loop (cpath (Tryd.f35.body.getD .skip) [1, 1, 1, 1, 1, 1, 1, 1, 1, 1, 1, 1, 0, 0, 0])) ⟨[.any, .any, .any, .any, .any, .v (.one (.ptr 0 ⟨0, 0, 0, 0⟩)), .v (.one (.ptr 1 ⟨0, 0, 0, 0⟩)), .v (.one (.sc (.bool false))), .any, .any, .any, .any, .any, .any, .any, .any, .any, .any, .any, .any, .any, .any, .any, .any, .any, .any, .any, .any, .any, .any, .any, .any, .any, .any, .any, .any, .any, .any, .any, .any, .any, .any, .any, .any, .any, .any, .any, .any, .any, .any, .any, .any, .any, .any, .any, .any, .any, .any, .any, .any, .any, .any, .any, .any, .any, .any, .any, .any, .any, .any, .any, .any, .any, .any, .any, .any, .any, .any, .any, .any, .any, .any, .any, .any, .any, .any, .any, .any, .any, .any, .any, .any, .any, .any, .any, .any, .any, .any, .any, .any, .any, .any, .any, .any, .any, .any, .any, .any, .any, .any, .any, .any, .any, .any, .any, .any, .any, .any, .any, .any, .any, .any, .any, .any, .any, .any, .any, .any, .any, .any, .any, .any, .any, .any, .any, .any, .any, .any, .any, .any, .any, .any, .any, .any, .any, .any, .any, .any, .any, .any, .any, .any, .any, .any, .any, .any, .any, .any, .any, .any, .any, .any, .any, .any, .any, .any, .any, .any, .any, .any, .any, .any, .any, .any, .any, .any, .any, .any, .any, .any, .any, .any, .any, .any, .any, .any, .any, .any, .any, .any, .any], [.ex false [.c (.sc (.bool t13.1)), .c (.sc (.int .u64 (IntKind.wrap .u64 ((256 : Int) * t13.2.1)))), .c (.sc (.int .i64 (IntKind.wrap .i64 ((p2 t13) - (8 : Int))))), .c (.sc (.bool (z3 t13)))] 93, .ex false [.c (.sc (.bool t12.1)), .c (.sc (.int .u64 (IntKind.wrap .u64 ((256 : Int) * t12.2.1)))), .c (.sc (.int .i64 (IntKind.wrap .i64 ((p2 t12) - (8 : Int))))), .c (.sc (.bool (z3 t12)))] 93], 0⟩ (fun e s => e = (.exit 0) ∧ s = ⟨[.any, .any, .any, .any, .any, .v (.one (.ptr 0 ⟨0, 0, 0, 0⟩)), .v (.one (.ptr 1 ⟨0, 0, 0, 0⟩)), .v (.one (.sc (.bool (z4 t62)))), .any, .any, .any, .any, .any, .any, .any, .any, .any, .any, .any, .any, .any, .any, .any, .any, .any, .any, .any, .any, .any, .any, .any, .any, .any, .any, .any, .any, .any, .any, .any, .any, .any, .any, .any, .any, .any, .any, .any, .any, .any, .any, .any, .any, .any, .any, .any, .any, .any, .any, .any, .any, .any, .any, .any, .any, .any, .any, .any, .any, .any, .any, .any, .any, .any, .any, .any, .any, .any, .any, .any, .any, .any, .any, .any, .any, .any, .any, .any, .any, .any, .any, .any, .any, .any, .any, .any, .any, .any, .any, .any, .any, .any, .any, .any, .any, .any, .any, .any, .any, .any, .any, .any, .any, .any, .any, .any, .any, .any, .any, .any, .any, .any, .any, .any, .any, .any, .any, .any, .any, .any, .any, .any, .any, .any, .any, .any, .any, .any, .any, .any, .any, .any, .any, .any, .any, .any, .any, .any, .any, .any, .any, .any, .any, .any, .any, .any, .any, .any, .any, .any, .any, .any, .any, .any, .any, .any, .any, .any, .any, .any, .any, .any, .any, .any, .any, .any, .any, .any, .any, .any, .any, .any, .any, .any, .any, .any, .any, .any, .any, .any, .any, .any], [.ex false [.c (.sc (.bool t13.1)), .c (.sc (.int .u64 t62.1)), .c (.sc (.int .i64 t62.2.1)), .c (.sc (.bool (z3 t13)))] 93, .ex false [.c (.sc (.bool t12.1)), .c (.sc (.int .u64 (p2 t62))), .c (.sc (.int .i64 (p3 t62))), .c (.sc (.bool (z3 t12)))] 93], 0⟩) ∧ (True) ∧ (True) ∧ (True) ∧ (((t13.1 == t12.1) = true → (True) ∧ (True) ∧ (True) ∧ (True) ∧ (True) ∧ (∃ t83 : Int, (Fun cfg 63 [.agg [.c (.sc (.bool t13.1)), .c (.sc (.int .u64 (IntKind.wrap .u64 (t62.1 + (p2 t62))))), .c (.sc (.int .i64 t62.2.1)), .c (.sc (.bool (z4 t62)))]] [] (halterref02_Round.R t83) [] ∧ True) ∧ (True ∧ ((True) ∧ ((True) ∧ True) ∧ (.v (.one (.sc (.int .u64 t83))) : Tm) = halterref02_Add.R r ∧ ([] : List Box) = [])))) ∧ ((t13.1 == t12.1) = false → (True) ∧ (True) ∧ (True) ∧ (((decide (t62.1 < (p2 t62))) = true → (True) ∧ (True) ∧ (True) ∧ (True) ∧ (True) ∧ (∃ t85 : Int, (Fun cfg 63 [.agg [.c (.sc (.bool t12.1)), .c (.sc (.int .u64 (IntKind.wrap .u64 ((p2 t62) - t62.1)))), .c (.sc (.int .i64 t62.2.1)), .c (.sc (.bool false))]] [] (halterref02_Round.R t85) [] ∧ True) ∧ (True ∧ ((True) ∧ ((True) ∧ True) ∧ (.v (.one (.sc (.int .u64 t85))) : Tm) = halterref02_Add.R r ∧ ([] : List Box) = [])))) ∧ ((decide (t62.1 < (p2 t62))) = false → (True) ∧ (True) ∧ (True) ∧ (((z4 t62) = true → (True) ∧ (True) ∧ ((((IntKind.wrap .u64 ((IntKind.wrap .u64 (t62.1 - (p2 t62))) - (1 : Int))) == (0 : Int)) = true → (((IntKind.wrap .u64 ((IntKind.wrap .u64 (t62.1 - (p2 t62))) - (1 : Int))) == (0 : Int)) = true ∧ (((IntKind.wrap .u64 ((IntKind.wrap .u64 (t62.1 - (p2 t62))) - (1 : Int))) == (0 : Int)) = true ∧ ((!(z4 t62)) = false ∧ (True) ∧ (True) ∧ (∃ t88 : Int, (Fun cfg 63 [.agg [.c (.sc (.bool t13.1)), .c (.sc (.int .u64 (IntKind.wrap .u64 ((IntKind.wrap .u64 (t62.1 - (p2 t62))) - (1 : Int))))), .c (.sc (.int .i64 t62.2.1)), .c (.sc (.bool (z4 t62)))]] [] (halterref02_Round.R t88) [] ∧ True) ∧ (True ∧ ((True) ∧ ((True) ∧ True) ∧ (.v (.one (.sc (.int .u64 t88))) : Tm) = halterref02_Add.R r ∧ ([] : List Box) = []))))))) ∧ (((IntKind.wrap .u64 ((IntKind.wrap .u64 (t62.1 - (p2 t62))) - (1 : Int))) == (0 : Int)) = false → (((IntKind.wrap .u64 ((IntKind.wrap .u64 (t62.1 - (p2 t62))) - (1 : Int))) == (0 : Int)) = false ∧ (((IntKind.wrap .u64 ((IntKind.wrap .u64 (t62.1 - (p2 t62))) - (1 : Int))) == (0 : Int)) = false ∧ (false = false ∧ (True) ∧ (True) ∧ (∃ t89 : Int, (Fun cfg 63 [.agg [.c (.sc (.bool t13.1)), .c (.sc (.int .u64 (IntKind.wrap .u64 ((IntKind.wrap .u64 (t62.1 - (p2 t62))) - (1 : Int))))), .c (.sc (.int .i64 t62.2.1)), .c (.sc (.bool (z4 t62)))]] [] (halterref02_Round.R t89) [] ∧ True) ∧ (True ∧ ((True) ∧ ((True) ∧ True) ∧ (.v (.one (.sc (.int .u64 t89))) : Tm) = halterref02_Add.R r ∧ ([] : List Box) = []))))))))) ∧ ((z4 t62) = false → (True) ∧ ((((IntKind.wrap .u64 (t62.1 - (p2 t62))) == (0 : Int)) = true → (((IntKind.wrap .u64 (t62.1 - (p2 t62))) == (0 : Int)) = true ∧ (((IntKind.wrap .u64 (t62.1 - (p2 t62))) == (0 : Int)) = true ∧ ((!(z4 t62)) = true ∧ (True ∧ (True ∧ ((True) ∧ ((True) ∧ True) ∧ (.v (.one (.sc (.int .u64 (0 : Int)))) : Tm) = halterref02_Add.R r ∧ ([] : List Box) = []))))))) ∧ (((IntKind.wrap .u64 (t62.1 - (p2 t62))) == (0 : Int)) = false → (((IntKind.wrap .u64 (t62.1 - (p2 t62))) == (0 : Int)) = false ∧ (((IntKind.wrap .u64 (t62.1 - (p2 t62))) == (0 : Int)) = false ∧ (false = false ∧ (True) ∧ (True) ∧ (∃ t91 : Int, (Fun cfg 63 [.agg [.c (.sc (.bool t13.1)), .c (.sc (.int .u64 (IntKind.wrap .u64 (t62.1 - (p2 t62))))), .c (.sc (.int .i64 t62.2.1)), .c (.sc (.bool (z4 t62)))]] [] (halterref02_Round.R t91) [] ∧ True) ∧ (True ∧ ((True) ∧ ((True) ∧ True) ∧ (.v (.one (.sc (.int .u64 t91))) : Tm) = halterref02_Add.R r ∧ ([] : List Box) = [])))))))))))))))))))))))))))))))))))))))))))))))))))) (by kernel_rfl) ?_)
  obtain ⟨t1, ht1, h⟩ := of_bind h
  refine ⟨t1, ⟨halterref02_none.fun_ ht1, trivial⟩, ?_⟩
  refine ⟨fun b2 => ?_, fun b2 => ?_⟩
  · rw [if_pos b2] at h
    refine ⟨trivial, trivial, ?_⟩
    obtain rfl := Option.some.inj h
    exact ⟨trivial, trivial, rfl, rfl⟩
  · rw [if_neg (ff b2)] at h
    obtain ⟨t3, ht3, h⟩ := of_bind h
    refine ⟨t3, ⟨halterref02_Class.fun_ ht3, trivial⟩, ?_⟩
    refine ⟨trivial, ?_⟩
    refine ⟨fun b4 => ?_, fun b4 => ?_⟩
    · rw [if_pos (beq_t b4)] at h
      obtain ⟨t5, ht5, h⟩ := of_bind h
      refine ⟨t5, ⟨halterref02_Class.fun_ ht5, trivial⟩, ?_⟩
      refine ⟨trivial, ?_⟩
      refine ⟨fun b6 => ?_, fun b6 => ?_⟩
      · rw [if_pos (beq_t b6)] at h
        refine ⟨b6, ?_⟩
        obtain ⟨t7, ht7, h⟩ := of_bind h
        refine ⟨t7, ⟨halterref02_Neg.fun_ ht7, trivial⟩, ?_⟩
        refine ⟨b6, ?_⟩
        refine ⟨b6, ?_⟩
        obtain ⟨t8, ht8, h⟩ := of_bind h
        refine ⟨t8, ⟨halterref02_Neg.fun_ ht8, trivial⟩, ?_⟩
        refine ⟨b6, ?_⟩
        refine ⟨trivial, ?_⟩
        refine ⟨b6, ?_⟩
        refine ⟨fun b9 => ?_, fun b9 => ?_⟩
        · rw [if_pos (bb_f (not_t b9))] at h
          refine ⟨trivial, trivial, ?_⟩
          obtain rfl := Option.some.inj h
          exact ⟨trivial, trivial, rfl, rfl⟩
        · rw [if_neg (not_not_intro (bb_t (not_f b9)))] at h
          refine ⟨trivial, trivial, trivial, ?_⟩
          obtain rfl := Option.some.inj h
          exact ⟨trivial, trivial, rfl, rfl⟩
      · rw [if_neg (beq_f b6)] at h
        refine ⟨b6, ?_⟩
        refine ⟨b6, ?_⟩
        refine ⟨b6, ?_⟩
        refine ⟨b6, ?_⟩
        refine ⟨b6, ?_⟩
        refine ⟨rfl, trivial, trivial, trivial, ?_⟩
        obtain rfl := Option.some.inj h
        exact ⟨trivial, trivial, rfl, rfl⟩
    · rw [if_neg (beq_f b4)] at h
      obtain ⟨t10, ht10, h⟩ := of_bind h
      refine ⟨t10, ⟨halterref02_Class.fun_ ht10, trivial⟩, ?_⟩
      refine ⟨trivial, ?_⟩
      refine ⟨fun b11 => ?_, fun b11 => ?_⟩
      · rw [if_pos (beq_t b11)] at h
        refine ⟨trivial, trivial, ?_⟩
        obtain rfl := Option.some.inj h
        exact ⟨trivial, trivial, rfl, rfl⟩
      · rw [if_neg (beq_f b11)] at h
        obtain ⟨t12, ht12, h⟩ := of_bind h
        refine ⟨t12, ⟨halterref02_Open.fun_ ht12, trivial⟩, ?_⟩
        obtain ⟨t13, ht13, h⟩ := of_bind h
        refine ⟨t13, ⟨halterref02_Open.fun_ ht13, trivial⟩, ?_⟩
        refine ⟨trivial, trivial, trivial, trivial, ?_⟩
        refine ⟨fun b14 => ?_, fun b14 => ?_⟩
        · rw [if_pos (beq_t b14)] at h
          refine ⟨b14, ?_⟩
          refine ⟨trivial, ?_⟩
          refine ⟨b14, ?_⟩
          refine ⟨trivial, ?_⟩
          refine ⟨b14, ?_⟩
          refine ⟨fun b15 => ?_, fun b15 => ?_⟩
          · rw [if_pos (beq_t b15)] at h
            refine ⟨trivial, ?_⟩
            refine ⟨fun b16 => ?_, fun b16 => ?_⟩
            · rw [if_pos b16] at h
              refine ⟨b16, ?_⟩
              refine ⟨trivial, ?_⟩
              refine ⟨b16, ?_⟩
              obtain ⟨t17, ht17, h⟩ := of_bind h
              refine ⟨t17, ⟨halterref02_signed.fun_ ht17, trivial⟩, ?_⟩
              refine ⟨trivial, ?_⟩
              obtain rfl := Option.some.inj h
              exact ⟨trivial, ⟨trivial, trivial⟩, rfl, rfl⟩
            · rw [if_neg (ff b16)] at h
              refine ⟨b16, ?_⟩
              refine ⟨b16, ?_⟩
              obtain ⟨t18, ht18, h⟩ := of_bind h
              refine ⟨t18, ⟨halterref02_signed.fun_ ht18, trivial⟩, ?_⟩
              refine ⟨trivial, ?_⟩
              obtain rfl := Option.some.inj h
              exact ⟨trivial, ⟨trivial, trivial⟩, rfl, rfl⟩
          · rw [if_neg (beq_f b15)] at h
            refine ⟨trivial, trivial, ?_⟩
            refine ⟨b14, ?_⟩
            refine ⟨trivial, trivial, ?_⟩
            obtain rfl := Option.some.inj h
            exact ⟨trivial, ⟨trivial, trivial⟩, rfl, rfl⟩
        · rw [if_neg (beq_f b14)] at h
          refine ⟨b14, ?_⟩
          refine ⟨b14, ?_⟩
          refine ⟨b14, ?_⟩
          refine ⟨rfl, trivial, trivial, ?_⟩
          refine ⟨b14, ?_⟩
          refine ⟨trivial, trivial, ?_⟩
          refine ⟨fun b19 => ?_, fun b19 => ?_⟩
          · rw [if_pos (beq_t b19)] at h
            refine ⟨trivial, trivial, ?_⟩
            obtain rfl := Option.some.inj h
            exact ⟨trivial, ⟨trivial, trivial⟩, rfl, rfl⟩
          · rw [if_neg (beq_f b19)] at h
            refine ⟨trivial, trivial, trivial, ?_⟩
            refine ⟨fun b20 => ?_, fun b20 => ?_⟩
            · rw [if_neg (of_decide_eq_false b20)] at h
              refine ⟨b20, ?_⟩
              refine ⟨trivial, ?_⟩
              refine ⟨b20, ?_⟩
              refine ⟨b20, ?_⟩
              refine ⟨trivial, ?_⟩
              refine ⟨b20, ?_⟩
              refine ⟨trivial, ?_⟩
              refine ⟨b20, ?_⟩
              refine ⟨fun b92 => ?_, fun b92 => ?_⟩
              · rw [if_pos (beq_t b92)] at h
                refine ⟨b92, ?_⟩
                refine ⟨trivial, ?_⟩
                refine ⟨b92, ?_⟩
                refine ⟨b92, ?_⟩
                refine ⟨trivial, ?_⟩
                refine ⟨b92, ?_⟩
                refine ⟨trivial, ?_⟩
                refine ⟨b20, ?_⟩
                refine ⟨b92, ?_⟩
                refine ⟨b20, ?_⟩
                refine ⟨fun b93 => ?_, fun b93 => ?_⟩
                · rw [if_pos (of_decide_eq_true b93)] at h
                  refine ⟨trivial, trivial, trivial, trivial, trivial, trivial, trivial, trivial, trivial, trivial, trivial, trivial, trivial, trivial, trivial, trivial, trivial, trivial, trivial, trivial, trivial, ?_⟩
                  obtain ⟨t135, ht135, h⟩ := of_bind h
                  refine ⟨⟨trivial, trivial⟩, t135, Trip.loop FUEL (halterref02_Add.l1_ok t12 t13 FUEL (IntKind.wrap .u64 ((256 : Int) * t13.2.1)) (IntKind.wrap .i64 (t13.2.2.1 - (8 : Int))) (IntKind.wrap .u64 ((256 : Int) * t12.2.1)) (IntKind.wrap .i64 (t12.2.2.1 - (8 : Int))) false t135 ht135), ?_⟩
                  refine ⟨trivial, trivial, trivial, ?_⟩
                  refine ⟨fun b155 => ?_, fun b155 => ?_⟩
                  · rw [if_pos (bb_t b155)] at h
                    refine ⟨trivial, trivial, trivial, trivial, trivial, ?_⟩
                    obtain ⟨t156, ht156, h⟩ := of_bind h
                    refine ⟨t156, ⟨halterref02_Round.fun_ ht156, trivial⟩, ?_⟩
                    refine ⟨trivial, ?_⟩
                    obtain rfl := Option.some.inj h
                    exact ⟨trivial, ⟨trivial, trivial⟩, rfl, rfl⟩
                  · rw [if_neg (bb_f b155)] at h
                    refine ⟨trivial, trivial, trivial, ?_⟩
                    refine ⟨fun b157 => ?_, fun b157 => ?_⟩
                    · rw [if_pos (of_decide_eq_true b157)] at h
                      refine ⟨trivial, trivial, trivial, trivial, trivial, ?_⟩
                      obtain ⟨t158, ht158, h⟩ := of_bind h
                      refine ⟨t158, ⟨halterref02_Round.fun_ ht158, trivial⟩, ?_⟩
                      refine ⟨trivial, ?_⟩
                      obtain rfl := Option.some.inj h
                      exact ⟨trivial, ⟨trivial, trivial⟩, rfl, rfl⟩
                    · rw [if_neg (of_decide_eq_false b157)] at h
                      refine ⟨trivial, trivial, trivial, ?_⟩
                      refine ⟨fun b159 => ?_, fun b159 => ?_⟩
                      · rw [if_pos b159] at h
                        refine ⟨trivial, trivial, ?_⟩
                        refine ⟨fun b160 => ?_, fun b160 => ?_⟩
                        · rw [if_pos (beq_t b160)] at h
                          refine ⟨b160, ?_⟩
                          refine ⟨b160, ?_⟩
                          refine ⟨(not_of b159), ?_⟩
                          refine ⟨trivial, trivial, ?_⟩
                          obtain ⟨t161, ht161, h⟩ := of_bind h
                          refine ⟨t161, ⟨halterref02_Round.fun_ ht161, trivial⟩, ?_⟩
                          refine ⟨trivial, ?_⟩
                          obtain rfl := Option.some.inj h
                          exact ⟨trivial, ⟨trivial, trivial⟩, rfl, rfl⟩
                        · rw [if_neg (beq_f b160)] at h
                          refine ⟨b160, ?_⟩
                          refine ⟨b160, ?_⟩
                          refine ⟨rfl, trivial, trivial, ?_⟩
                          obtain ⟨t162, ht162, h⟩ := of_bind h
                          refine ⟨t162, ⟨halterref02_Round.fun_ ht162, trivial⟩, ?_⟩
                          refine ⟨trivial, ?_⟩
                          obtain rfl := Option.some.inj h
                          exact ⟨trivial, ⟨trivial, trivial⟩, rfl, rfl⟩
                      · rw [if_neg (ff b159)] at h
                        refine ⟨trivial, ?_⟩
                        refine ⟨fun b163 => ?_, fun b163 => ?_⟩
                        · rw [if_pos (beq_t b163)] at h
                          refine ⟨b163, ?_⟩
                          refine ⟨b163, ?_⟩
                          refine ⟨(not_of b159), ?_⟩
                          refine ⟨trivial, trivial, ?_⟩
                          obtain rfl := Option.some.inj h
                          exact ⟨trivial, ⟨trivial, trivial⟩, rfl, rfl⟩
                        · rw [if_neg (beq_f b163)] at h
                          refine ⟨b163, ?_⟩
                          refine ⟨b163, ?_⟩
                          refine ⟨rfl, trivial, trivial, ?_⟩
                          obtain ⟨t164, ht164, h⟩ := of_bind h
                          refine ⟨t164, ⟨halterref02_Round.fun_ ht164, trivial⟩, ?_⟩
                          refine ⟨trivial, ?_⟩
                          obtain rfl := Option.some.inj h
                          exact ⟨trivial, ⟨trivial, trivial⟩, rfl, rfl⟩
                · rw [if_neg (of_decide_eq_false b93)] at h
                  refine ⟨trivial, trivial, trivial, trivial, trivial, trivial, trivial, trivial, trivial, trivial, trivial, trivial, trivial, trivial, trivial, trivial, trivial, ?_⟩
                  obtain ⟨t206, ht206, h⟩ := of_bind h
                  refine ⟨⟨trivial, trivial⟩, t206, Trip.loop FUEL (halterref02_Add.l2_ok t12 t13 FUEL (IntKind.wrap .u64 ((256 : Int) * t12.2.1)) (IntKind.wrap .i64 (t12.2.2.1 - (8 : Int))) (IntKind.wrap .u64 ((256 : Int) * t13.2.1)) (IntKind.wrap .i64 (t13.2.2.1 - (8 : Int))) false t206 ht206), ?_⟩
                  refine ⟨trivial, trivial, trivial, ?_⟩
                  refine ⟨fun b226 => ?_, fun b226 => ?_⟩
                  · rw [if_pos (bb_t b226)] at h
                    refine ⟨trivial, trivial, trivial, trivial, trivial, ?_⟩
                    obtain ⟨t227, ht227, h⟩ := of_bind h
                    refine ⟨t227, ⟨halterref02_Round.fun_ ht227, trivial⟩, ?_⟩
                    refine ⟨trivial, ?_⟩
                    obtain rfl := Option.some.inj h
                    exact ⟨trivial, ⟨trivial, trivial⟩, rfl, rfl⟩
                  · rw [if_neg (bb_f b226)] at h
                    refine ⟨trivial, trivial, trivial, ?_⟩
                    refine ⟨fun b228 => ?_, fun b228 => ?_⟩
                    · rw [if_pos (of_decide_eq_true b228)] at h
                      refine ⟨trivial, trivial, trivial, trivial, trivial, ?_⟩
                      obtain ⟨t229, ht229, h⟩ := of_bind h
                      refine ⟨t229, ⟨halterref02_Round.fun_ ht229, trivial⟩, ?_⟩
                      refine ⟨trivial, ?_⟩
                      obtain rfl := Option.some.inj h
                      exact ⟨trivial, ⟨trivial, trivial⟩, rfl, rfl⟩
                    · rw [if_neg (of_decide_eq_false b228)] at h
                      refine ⟨trivial, trivial, trivial, ?_⟩
                      refine ⟨fun b230 => ?_, fun b230 => ?_⟩
                      · rw [if_pos b230] at h
                        refine ⟨trivial, trivial, ?_⟩
                        refine ⟨fun b231 => ?_, fun b231 => ?_⟩
                        · rw [if_pos (beq_t b231)] at h
                          refine ⟨b231, ?_⟩
                          refine ⟨b231, ?_⟩
                          refine ⟨(not_of b230), ?_⟩
                          refine ⟨trivial, trivial, ?_⟩
                          obtain ⟨t232, ht232, h⟩ := of_bind h
                          refine ⟨t232, ⟨halterref02_Round.fun_ ht232, trivial⟩, ?_⟩
                          refine ⟨trivial, ?_⟩
                          obtain rfl := Option.some.inj h
                          exact ⟨trivial, ⟨trivial, trivial⟩, rfl, rfl⟩
                        · rw [if_neg (beq_f b231)] at h
                          refine ⟨b231, ?_⟩
                          refine ⟨b231, ?_⟩
                          refine ⟨rfl, trivial, trivial, ?_⟩
                          obtain ⟨t233, ht233, h⟩ := of_bind h
                          refine ⟨t233, ⟨halterref02_Round.fun_ ht233, trivial⟩, ?_⟩
                          refine ⟨trivial, ?_⟩
                          obtain rfl := Option.some.inj h
                          exact ⟨trivial, ⟨trivial, trivial⟩, rfl, rfl⟩
                      · rw [if_neg (ff b230)] at h
                        refine ⟨trivial, ?_⟩
                        refine ⟨fun b234 => ?_, fun b234 => ?_⟩
                        · rw [if_pos (beq_t b234)] at h
                          refine ⟨b234, ?_⟩
                          refine ⟨b234, ?_⟩
                          refine ⟨(not_of b230), ?_⟩
                          refine ⟨trivial, trivial, ?_⟩
                          obtain rfl := Option.some.inj h
                          exact ⟨trivial, ⟨trivial, trivial⟩, rfl, rfl⟩
                        · rw [if_neg (beq_f b234)] at h
                          refine ⟨b234, ?_⟩
                          refine ⟨b234, ?_⟩
                          refine ⟨rfl, trivial, trivial, ?_⟩
                          obtain ⟨t235, ht235, h⟩ := of_bind h
                          refine ⟨t235, ⟨halterref02_Round.fun_ ht235, trivial⟩, ?_⟩
                          refine ⟨trivial, ?_⟩
                          obtain rfl := Option.some.inj h
                          exact ⟨trivial, ⟨trivial, trivial⟩, rfl, rfl⟩
              · rw [if_neg (beq_f b92)] at h
                refine ⟨b92, ?_⟩
                refine ⟨b92, ?_⟩
                refine ⟨b92, ?_⟩
                refine ⟨b92, ?_⟩
                refine ⟨b20, ?_⟩
                refine ⟨b92, ?_⟩
                refine ⟨b20, ?_⟩
                refine ⟨rfl, trivial, trivial, trivial, trivial, trivial, trivial, trivial, trivial, trivial, trivial, trivial, trivial, trivial, trivial, trivial, trivial, trivial, ?_⟩
                obtain ⟨t277, ht277, h⟩ := of_bind h
                refine ⟨⟨trivial, trivial⟩, t277, Trip.loop FUEL (halterref02_Add.l3_ok t12 t13 FUEL (IntKind.wrap .u64 ((256 : Int) * t12.2.1)) (IntKind.wrap .i64 (t12.2.2.1 - (8 : Int))) (IntKind.wrap .u64 ((256 : Int) * t13.2.1)) (IntKind.wrap .i64 (t13.2.2.1 - (8 : Int))) false t277 ht277), ?_⟩
                refine ⟨trivial, trivial, trivial, ?_⟩
                refine ⟨fun b297 => ?_, fun b297 => ?_⟩
                · rw [if_pos (bb_t b297)] at h
                  refine ⟨trivial, trivial, trivial, trivial, trivial, ?_⟩
                  obtain ⟨t298, ht298, h⟩ := of_bind h
                  refine ⟨t298, ⟨halterref02_Round.fun_ ht298, trivial⟩, ?_⟩
                  refine ⟨trivial, ?_⟩
                  obtain rfl := Option.some.inj h
                  exact ⟨trivial, ⟨trivial, trivial⟩, rfl, rfl⟩
                · rw [if_neg (bb_f b297)] at h
                  refine ⟨trivial, trivial, trivial, ?_⟩
                  refine ⟨fun b299 => ?_, fun b299 => ?_⟩
                  · rw [if_pos (of_decide_eq_true b299)] at h
                    refine ⟨trivial, trivial, trivial, trivial, trivial, ?_⟩
                    obtain ⟨t300, ht300, h⟩ := of_bind h
                    refine ⟨t300, ⟨halterref02_Round.fun_ ht300, trivial⟩, ?_⟩
                    refine ⟨trivial, ?_⟩
                    obtain rfl := Option.some.inj h
                    exact ⟨trivial, ⟨trivial, trivial⟩, rfl, rfl⟩
                  · rw [if_neg (of_decide_eq_false b299)] at h
                    refine ⟨trivial, trivial, trivial, ?_⟩
                    refine ⟨fun b301 => ?_, fun b301 => ?_⟩
                    · rw [if_pos b301] at h
                      refine ⟨trivial, trivial, ?_⟩
                      refine ⟨fun b302 => ?_, fun b302 => ?_⟩
                      · rw [if_pos (beq_t b302)] at h
                        refine ⟨b302, ?_⟩
                        refine ⟨b302, ?_⟩
                        refine ⟨(not_of b301), ?_⟩
                        refine ⟨trivial, trivial, ?_⟩
                        obtain ⟨t303, ht303, h⟩ := of_bind h
                        refine ⟨t303, ⟨halterref02_Round.fun_ ht303, trivial⟩, ?_⟩
                        refine ⟨trivial, ?_⟩
                        obtain rfl := Option.some.inj h
                        exact ⟨trivial, ⟨trivial, trivial⟩, rfl, rfl⟩
                      · rw [if_neg (beq_f b302)] at h
                        refine ⟨b302, ?_⟩
                        refine ⟨b302, ?_⟩
                        refine ⟨rfl, trivial, trivial, ?_⟩
                        obtain ⟨t304, ht304, h⟩ := of_bind h
                        refine ⟨t304, ⟨halterref02_Round.fun_ ht304, trivial⟩, ?_⟩
                        refine ⟨trivial, ?_⟩
                        obtain rfl := Option.some.inj h
                        exact ⟨trivial, ⟨trivial, trivial⟩, rfl, rfl⟩
                    · rw [if_neg (ff b301)] at h
                      refine ⟨trivial, ?_⟩
                      refine ⟨fun b305 => ?_, fun b305 => ?_⟩
                      · rw [if_pos (beq_t b305)] at h
                        refine ⟨b305, ?_⟩
                        refine ⟨b305, ?_⟩
                        refine ⟨(not_of b301), ?_⟩
                        refine ⟨trivial, trivial, ?_⟩
                        obtain rfl := Option.some.inj h
                        exact ⟨trivial, ⟨trivial, trivial⟩, rfl, rfl⟩
                      · rw [if_neg (beq_f b305)] at h
                        refine ⟨b305, ?_⟩
                        refine ⟨b305, ?_⟩
                        refine ⟨rfl, trivial, trivial, ?_⟩
                        obtain ⟨t306, ht306, h⟩ := of_bind h
                        refine ⟨t306, ⟨halterref02_Round.fun_ ht306, trivial⟩, ?_⟩
                        refine ⟨trivial, ?_⟩
                        obtain rfl := Option.some.inj h
                        exact ⟨trivial, ⟨trivial, trivial⟩, rfl, rfl⟩
            · rw [if_pos (of_decide_eq_true b20)] at h
              refine ⟨b20, ?_⟩
              refine ⟨b20, ?_⟩
              refine ⟨b20, ?_⟩
              refine ⟨b20, ?_⟩
              refine ⟨b20, ?_⟩
              refine ⟨b20, ?_⟩
              refine ⟨b20, ?_⟩
              refine ⟨rfl, trivial, trivial, trivial, trivial, trivial, trivial, trivial, trivial, trivial, trivial, trivial, trivial, trivial, trivial, trivial, trivial, trivial, trivial, trivial, trivial, trivial, ?_⟩
              obtain ⟨t62, ht62, h⟩ := of_bind h
              refine ⟨⟨trivial, trivial⟩, t62, Trip.loop FUEL (halterref02_Add.l0_ok t12 t13 FUEL (IntKind.wrap .u64 ((256 : Int) * t13.2.1)) (IntKind.wrap .i64 (t13.2.2.1 - (8 : Int))) (IntKind.wrap .u64 ((256 : Int) * t12.2.1)) (IntKind.wrap .i64 (t12.2.2.1 - (8 : Int))) false t62 ht62), ?_⟩
              refine ⟨trivial, trivial, trivial, ?_⟩
              refine ⟨fun b82 => ?_, fun b82 => ?_⟩
              · rw [if_pos (bb_t b82)] at h
                refine ⟨trivial, trivial, trivial, trivial, trivial, ?_⟩
                obtain ⟨t83, ht83, h⟩ := of_bind h
                refine ⟨t83, ⟨halterref02_Round.fun_ ht83, trivial⟩, ?_⟩
                refine ⟨trivial, ?_⟩
                obtain rfl := Option.some.inj h
                exact ⟨trivial, ⟨trivial, trivial⟩, rfl, rfl⟩
              · rw [if_neg (bb_f b82)] at h
                refine ⟨trivial, trivial, trivial, ?_⟩
                refine ⟨fun b84 => ?_, fun b84 => ?_⟩
                · rw [if_pos (of_decide_eq_true b84)] at h
                  refine ⟨trivial, trivial, trivial, trivial, trivial, ?_⟩
                  obtain ⟨t85, ht85, h⟩ := of_bind h
                  refine ⟨t85, ⟨halterref02_Round.fun_ ht85, trivial⟩, ?_⟩
                  refine ⟨trivial, ?_⟩
                  obtain rfl := Option.some.inj h
                  exact ⟨trivial, ⟨trivial, trivial⟩, rfl, rfl⟩
                · rw [if_neg (of_decide_eq_false b84)] at h
                  refine ⟨trivial, trivial, trivial, ?_⟩
                  refine ⟨fun b86 => ?_, fun b86 => ?_⟩
                  · rw [if_pos b86] at h
                    refine ⟨trivial, trivial, ?_⟩
                    refine ⟨fun b87 => ?_, fun b87 => ?_⟩
                    · rw [if_pos (beq_t b87)] at h
                      refine ⟨b87, ?_⟩
                      refine ⟨b87, ?_⟩
                      refine ⟨(not_of b86), ?_⟩
                      refine ⟨trivial, trivial, ?_⟩
                      obtain ⟨t88, ht88, h⟩ := of_bind h
                      refine ⟨t88, ⟨halterref02_Round.fun_ ht88, trivial⟩, ?_⟩
                      refine ⟨trivial, ?_⟩
                      obtain rfl := Option.some.inj h
                      exact ⟨trivial, ⟨trivial, trivial⟩, rfl, rfl⟩
                    · rw [if_neg (beq_f b87)] at h
                      refine ⟨b87, ?_⟩
                      refine ⟨b87, ?_⟩
                      refine ⟨rfl, trivial, trivial, ?_⟩
                      obtain ⟨t89, ht89, h⟩ := of_bind h
                      refine ⟨t89, ⟨halterref02_Round.fun_ ht89, trivial⟩, ?_⟩
                      refine ⟨trivial, ?_⟩
                      obtain rfl := Option.some.inj h
                      exact ⟨trivial, ⟨trivial, trivial⟩, rfl, rfl⟩
                  · rw [if_neg (ff b86)] at h
                    refine ⟨trivial, ?_⟩
                    refine ⟨fun b90 => ?_, fun b90 => ?_⟩
                    · rw [if_pos (beq_t b90)] at h
                      refine ⟨b90, ?_⟩
                      refine ⟨b90, ?_⟩
                      refine ⟨(not_of b86), ?_⟩
                      refine ⟨trivial, trivial, ?_⟩
                      obtain rfl := Option.some.inj h
                      exact ⟨trivial, ⟨trivial, trivial⟩, rfl, rfl⟩
                    · rw [if_neg (beq_f b90)] at h
                      refine ⟨b90, ?_⟩
                      refine ⟨b90, ?_⟩
                      refine ⟨rfl, trivial, trivial, ?_⟩
                      obtain ⟨t91, ht91, h⟩ := of_bind h
                      refine ⟨t91, ⟨halterref02_Round.fun_ ht91, trivial⟩, ?_⟩
                      refine ⟨trivial, ?_⟩
                      obtain rfl := Option.some.inj h
                      exact ⟨trivial, ⟨trivial, trivial⟩, rfl, rfl⟩
/-! halter/halterref02.Minus -/
def halterref02_Minus.f (a0 : Int) : Option Int :=
  (halterref02_Neg.f a0).bind fun t1 =>
  if t1 = true then
    some (IntKind.wrap .u64 (a0 - (9223372036854775808 : Int)))
  else
    some (IntKind.wrap .u64 (a0 + (9223372036854775808 : Int)))
def halterref02_Minus.R (r : Int) : Tm := .v (.one (.sc (.int .u64 r)))
theorem halterref02_Minus.fun_ {a0 : Int} {r : Int} (h : halterref02_Minus.f a0 = some r) : Fun cfg 37 [.one (.sc (.int .u64 a0))] [] (halterref02_Minus.R r) [] := by
  unfold halterref02_Minus.f at h
  refine fun_of_run cfg_ok (f := 37) (fn := Tryd.f37) Tryd.func37 rfl (by kernel_rfl) (rs := [.tmp 2]) rfl (nt := 9) rfl (l := fin) (k := (.call true [] (Bool) halterref02_Neg.R (fun t1 => (.br (aE 3 .nil) (aE 4 .nil))))) (to_goal (q := (∃ t1 : Bool, (Fun cfg 60 [.one (.sc (.int .u64 a0))] [] (halterref02_Neg.R t1) [] ∧ True) ∧ ((t1 = true → (True ∧ (True) ∧ (True ∧ ((True) ∧ (True) ∧ (.v (.one (.sc (.int .u64 (IntKind.wrap .u64 (a0 - (9223372036854775808 : Int)))))) : Tm) = halterref02_Minus.R r ∧ ([] : List Box) = [])))) ∧ (t1 = false → (True ∧ (True ∧ (True) ∧ (True ∧ ((True) ∧ (True) ∧ (.v (.one (.sc (.int .u64 (IntKind.wrap .u64 (a0 + (9223372036854775808 : Int)))))) : Tm) = halterref02_Minus.R r ∧ ([] : List Box) = [])))))))) (by kernel_rfl) ?_)
  obtain ⟨t1, ht1, h⟩ := of_bind h
  refine ⟨t1, ⟨halterref02_Neg.fun_ ht1, trivial⟩, ?_⟩
  refine ⟨fun b2 => ?_, fun b2 => ?_⟩
  · rw [if_pos b2] at h
    refine ⟨trivial, trivial, trivial, ?_⟩
    obtain rfl := Option.some.inj h
    exact ⟨trivial, trivial, rfl, rfl⟩
  · rw [if_neg (ff b2)] at h
    refine ⟨trivial, trivial, trivial, trivial, ?_⟩
    obtain rfl := Option.some.inj h
    exact ⟨trivial, trivial, rfl, rfl⟩
/-! halter/halterref02.Product -/
def halterref02_Product.f (a0 : Int) (a1 : Int) : Option (Int × Int) :=
  some ((IntKind.wrap .u64 ((IntKind.wrap .u64 ((IntKind.wrap .u64 (Int.tdiv a0 (134217728 : Int))) * (IntKind.wrap .u64 (Int.tdiv a1 (134217728 : Int))))) + (IntKind.wrap .u64 (Int.tdiv (IntKind.wrap .u64 ((IntKind.wrap .u64 ((IntKind.wrap .u64 ((IntKind.wrap .u64 (Int.tdiv a0 (134217728 : Int))) * (Int.tmod a1 (134217728 : Int)))) + (IntKind.wrap .u64 ((Int.tmod a0 (134217728 : Int)) * (IntKind.wrap .u64 (Int.tdiv a1 (134217728 : Int))))))) + (IntKind.wrap .u64 (Int.tdiv (IntKind.wrap .u64 ((Int.tmod a0 (134217728 : Int)) * (Int.tmod a1 (134217728 : Int)))) (134217728 : Int))))) (134217728 : Int))))), (IntKind.wrap .u64 ((IntKind.wrap .u64 ((Int.tmod (IntKind.wrap .u64 ((IntKind.wrap .u64 ((IntKind.wrap .u64 ((IntKind.wrap .u64 (Int.tdiv a0 (134217728 : Int))) * (Int.tmod a1 (134217728 : Int)))) + (IntKind.wrap .u64 ((Int.tmod a0 (134217728 : Int)) * (IntKind.wrap .u64 (Int.tdiv a1 (134217728 : Int))))))) + (IntKind.wrap .u64 (Int.tdiv (IntKind.wrap .u64 ((Int.tmod a0 (134217728 : Int)) * (Int.tmod a1 (134217728 : Int)))) (134217728 : Int))))) (134217728 : Int)) * (134217728 : Int))) + (Int.tmod (IntKind.wrap .u64 ((Int.tmod a0 (134217728 : Int)) * (Int.tmod a1 (134217728 : Int)))) (134217728 : Int)))))
def halterref02_Product.R (r : Int × Int) : Tm := .tup [.one (.sc (.int .u64 r.1)), .one (.sc (.int .u64 r.2))]
theorem halterref02_Product.fun_ {a0 : Int} {a1 : Int} {r : Int × Int} (h : halterref02_Product.f a0 a1 = some r) : Fun cfg 64 [.one (.sc (.int .u64 a0)), .one (.sc (.int .u64 a1))] [] (halterref02_Product.R r) [] := by
  unfold halterref02_Product.f at h
  refine fun_of_run cfg_ok (f := 64) (fn := Tryd.f64) Tryd.func64 rfl (by kernel_rfl) (rs := [.tmp 4, .tmp 5]) rfl (nt := 41) rfl (l := fin) (k := (aE 6 .nil)) (to_goal (q := (True ∧ (True ∧ ((134217728 : Int) ≠ 0) ∧ ((134217728 : Int) ≠ 0) ∧ (True) ∧ (True ∧ ((134217728 : Int) ≠ 0) ∧ ((134217728 : Int) ≠ 0) ∧ (True) ∧ ((134217728 : Int) ≠ 0) ∧ ((134217728 : Int) ≠ 0) ∧ (True) ∧ (True) ∧ ((134217728 : Int) ≠ 0) ∧ (True) ∧ (True ∧ ((134217728 : Int) ≠ 0) ∧ ((134217728 : Int) ≠ 0) ∧ (True) ∧ ((134217728 : Int) ≠ 0) ∧ (True) ∧ ((134217728 : Int) ≠ 0) ∧ (True) ∧ ((134217728 : Int) ≠ 0) ∧ (True) ∧ (True ∧ ((True) ∧ (True) ∧ (.tup [.one (.sc (.int .u64 (IntKind.wrap .u64 ((IntKind.wrap .u64 ((IntKind.wrap .u64 (Int.tdiv a0 (134217728 : Int))) * (IntKind.wrap .u64 (Int.tdiv a1 (134217728 : Int))))) + (IntKind.wrap .u64 (Int.tdiv (IntKind.wrap .u64 ((IntKind.wrap .u64 ((IntKind.wrap .u64 ((IntKind.wrap .u64 (Int.tdiv a0 (134217728 : Int))) * (Int.tmod a1 (134217728 : Int)))) + (IntKind.wrap .u64 ((Int.tmod a0 (134217728 : Int)) * (IntKind.wrap .u64 (Int.tdiv a1 (134217728 : Int))))))) + (IntKind.wrap .u64 (Int.tdiv (IntKind.wrap .u64 ((Int.tmod a0 (134217728 : Int)) * (Int.tmod a1 (134217728 : Int)))) (134217728 : Int))))) (134217728 : Int))))))), .one (.sc (.int .u64 (IntKind.wrap .u64 ((IntKind.wrap .u64 ((Int.tmod (IntKind.wrap .u64 ((IntKind.wrap .u64 ((IntKind.wrap .u64 ((IntKind.wrap .u64 (Int.tdiv a0 (134217728 : Int))) * (Int.tmod a1 (134217728 : Int)))) + (IntKind.wrap .u64 ((Int.tmod a0 (134217728 : Int)) * (IntKind.wrap .u64 (Int.tdiv a1 (134217728 : Int))))))) + (IntKind.wrap .u64 (Int.tdiv (IntKind.wrap .u64 ((Int.tmod a0 (134217728 : Int)) * (Int.tmod a1 (134217728 : Int)))) (134217728 : Int))))) (134217728 : Int)) * (134217728 : Int))) + (Int.tmod (IntKind.wrap .u64 ((Int.tmod a0 (134217728 : Int)) * (Int.tmod a1 (134217728 : Int)))) (134217728 : Int))))))] : Tm) = halterref02_Product.R r ∧ ([] : List Box) = []))))))) (by kernel_rfl) ?_)
  refine ⟨trivial, trivial, ?_⟩
  refine ⟨(by decide), ?_⟩
  refine ⟨(by decide), ?_⟩
  refine ⟨trivial, trivial, ?_⟩
  refine ⟨(by decide), ?_⟩
  refine ⟨(by decide), ?_⟩
  refine ⟨trivial, ?_⟩
  refine ⟨(by decide), ?_⟩
  refine ⟨(by decide), ?_⟩
  refine ⟨trivial, trivial, ?_⟩
  refine ⟨(by decide), ?_⟩
  refine ⟨trivial, trivial, ?_⟩
  refine ⟨(by decide), ?_⟩
  refine ⟨(by decide), ?_⟩
  refine ⟨trivial, ?_⟩
  refine ⟨(by decide), ?_⟩
  refine ⟨trivial, ?_⟩
  refine ⟨(by decide), ?_⟩
  refine ⟨trivial, ?_⟩
  refine ⟨(by decide), ?_⟩
  refine ⟨trivial, trivial, ?_⟩
  obtain rfl := Option.some.inj h
  exact ⟨trivial, trivial, rfl, rfl⟩
/-! halter/halterref02.Mul -/
def halterref02_Mul.l0 (t1 : Bool) (t2 : Bool) (t19 : Bool × Int × Int × Bool) (t20 : Bool × Int × Int × Bool) : Nat → Int → Int → Option (Int × Int)
  | 0, _, _ => none
  | n + 1, x26, x27 =>
    if x26 < (4503599627370496 : Int) then
      halterref02_Mul.l0 t1 t2 t19 t20 n (IntKind.wrap .u64 ((2 : Int) * x26)) (IntKind.wrap .i64 (x27 - (1 : Int)))
    else
      some (x26, x27)
def halterref02_Mul.l0_S (t1 : Bool) (t2 : Bool) (t19 : Bool × Int × Int × Bool) (t20 : Bool × Int × Int × Bool) (x26 : Int) (x27 : Int) : St := ⟨[.any, .any, .any, .any, .any, .v (.one (.sc (.bool (!(t1 == t2))))), .v (.one (.ptr 0 ⟨0, 0, 0, 0⟩)), .v (.one (.ptr 1 ⟨0, 0, 0, 0⟩)), .any, .any, .any, .any, .any, .any, .any, .any, .any, .any, .any, .any, .any, .any, .any, .any, .any, .any, .any, .any, .any, .any, .any, .any, .any, .any, .any, .any, .any, .any, .any, .any, .any, .any, .any, .any, .any, .any, .any, .any, .any, .any, .any, .any, .any, .any, .any, .any, .any, .any, .any, .any, .any, .any, .any, .any, .any, .any, .any, .any, .any, .any, .any, .any, .any, .any, .any, .any, .any, .any, .any, .any, .any, .any, .any, .any, .any, .any, .any, .any, .any, .any, .any, .any, .any, .any, .any, .any, .any, .any, .any, .any, .any, .any, .any, .any, .any, .any, .any, .any, .any], [.ex false [.c (.sc (.bool t19.1)), .c (.sc (.int .u64 x26)), .c (.sc (.int .i64 x27)), .c (.sc (.bool t19.2.2.2))] 93, .ex false [.c (.sc (.bool t20.1)), .c (.sc (.int .u64 t20.2.1)), .c (.sc (.int .i64 t20.2.2.1)), .c (.sc (.bool t20.2.2.2))] 93], 0⟩
def halterref02_Mul.l0_Q (t1 : Bool) (t2 : Bool) (t19 : Bool × Int × Int × Bool) (t20 : Bool × Int × Int × Bool) (t : Int × Int) : Exit → St → Prop := fun e s => e = (.exit 0) ∧ s = ⟨[.any, .any, .any, .any, .any, .v (.one (.sc (.bool (!(t1 == t2))))), .v (.one (.ptr 0 ⟨0, 0, 0, 0⟩)), .v (.one (.ptr 1 ⟨0, 0, 0, 0⟩)), .any, .any, .any, .any, .any, .any, .any, .any, .any, .any, .any, .any, .any, .any, .any, .any, .any, .any, .any, .any, .any, .any, .any, .any, .any, .any, .any, .any, .any, .any, .any, .any, .any, .any, .any, .any, .any, .any, .any, .any, .any, .any, .any, .any, .any, .any, .any, .any, .any, .any, .any, .any, .any, .any, .any, .any, .any, .any, .any, .any, .any, .any, .any, .any, .any, .any, .any, .any, .any, .any, .any, .any, .any, .any, .any, .any, .any, .any, .any, .any, .any, .any, .any, .any, .any, .any, .any, .any, .any, .any, .any, .any, .any, .any, .any, .any, .any, .any, .any, .any, .any], [.ex false [.c (.sc (.bool t19.1)), .c (.sc (.int .u64 t.1)), .c (.sc (.int .i64 t.2)), .c (.sc (.bool t19.2.2.2))] 93, .ex false [.c (.sc (.bool t20.1)), .c (.sc (.int .u64 t20.2.1)), .c (.sc (.int .i64 t20.2.2.1)), .c (.sc (.bool t20.2.2.2))] 93], 0⟩
theorem halterref02_Mul.l0_ok (t1 : Bool) (t2 : Bool) (t19 : Bool × Int × Int × Bool) (t20 : Bool × Int × Int × Bool) : ∀ (n : Nat) (x26 : Int) (x27 : Int) (r : Int × Int), halterref02_Mul.l0 t1 t2 t19 t20 n x26 x27 = some r → TripN cfg (cpath (Tryd.f38.body.getD .skip) [1, 1, 1, 1, 1, 1, 0, 0, 0]) n (halterref02_Mul.l0_S t1 t2 t19 t20 x26 x27) (halterref02_Mul.l0_Q t1 t2 t19 t20 r) := by
  intro n
  induction n with
  | zero => intro x26 x27 r h; cases h
  | succ n ih =>
    intro x26 x27 r h
    rw [halterref02_Mul.l0] at h
    refine TripN.of_run cfg_ok (k := (.br (aE 3 (.adj [.keep [5, 6, 7], .drop 2] .nil)) (.adj [.keep [5, 6, 7], .drop 2] .nil))) (to_goal (q := (True) ∧ (True) ∧ (((decide (x26 < (4503599627370496 : Int))) = true → (True ∧ (True ∧ (True ∧ (True) ∧ (True) ∧ (True) ∧ (True) ∧ (True) ∧ (True) ∧ (((True) ∧ (True) ∧ True) ∧ TripN cfg (cpath (Tryd.f38.body.getD .skip) [1, 1, 1, 1, 1, 1, 0, 0, 0]) n (halterref02_Mul.l0_S t1 t2 t19 t20 (IntKind.wrap .u64 ((2 : Int) * x26)) (IntKind.wrap .i64 (x27 - (1 : Int)))) (halterref02_Mul.l0_Q t1 t2 t19 t20 r)))))) ∧ ((decide (x26 < (4503599627370496 : Int))) = false → (((True) ∧ (True) ∧ True) ∧ halterref02_Mul.l0_Q t1 t2 t19 t20 r (.exit 0) ⟨[.any, .any, .any, .any, .any, .v (.one (.sc (.bool (!(t1 == t2))))), .v (.one (.ptr 0 ⟨0, 0, 0, 0⟩)), .v (.one (.ptr 1 ⟨0, 0, 0, 0⟩)), .any, .any, .any, .any, .any, .any, .any, .any, .any, .any, .any, .any, .any, .any, .any, .any, .any, .any, .any, .any, .any, .any, .any, .any, .any, .any, .any, .any, .any, .any, .any, .any, .any, .any, .any, .any, .any, .any, .any, .any, .any, .any, .any, .any, .any, .any, .any, .any, .any, .any, .any, .any, .any, .any, .any, .any, .any, .any, .any, .any, .any, .any, .any, .any, .any, .any, .any, .any, .any, .any, .any, .any, .any, .any, .any, .any, .any, .any, .any, .any, .any, .any, .any, .any, .any, .any, .any, .any, .any, .any, .any, .any, .any, .any, .any, .any, .any, .any, .any, .any, .any], [.ex false [.c (.sc (.bool t19.1)), .c (.sc (.int .u64 x26)), .c (.sc (.int .i64 x27)), .c (.sc (.bool (z3 t19)))] 93, .ex false [.c (.sc (.bool t20.1)), .c (.sc (.int .u64 t20.2.1)), .c (.sc (.int .i64 (p2 t20))), .c (.sc (.bool (z3 t20)))] 93], 0⟩)))) (by kernel_rfl) ?_)
    refine ⟨trivial, trivial, ?_⟩
    refine ⟨fun b32 => ?_, fun b32 => ?_⟩
    · rw [if_pos (of_decide_eq_true b32)] at h
      refine ⟨trivial, trivial, trivial, trivial, trivial, trivial, trivial, trivial, trivial, ?_⟩
      exact ⟨⟨trivial, trivial, trivial⟩, ih (IntKind.wrap .u64 ((2 : Int) * x26)) (IntKind.wrap .i64 (x27 - (1 : Int))) r h⟩
    · rw [if_neg (of_decide_eq_false b32)] at h
      obtain rfl := Option.some.inj h
      exact ⟨⟨trivial, trivial, trivial⟩, rfl, rfl⟩
def halterref02_Mul.l1 (t1 : Bool) (t2 : Bool) (t19 : Bool × Int × Int × Bool) (t20 : Bool × Int × Int × Bool) (t31 : Int × Int) : Nat → Int → Int → Option (Int × Int)
  | 0, _, _ => none
  | n + 1, x38, x39 =>
    if x38 < (4503599627370496 : Int) then
      halterref02_Mul.l1 t1 t2 t19 t20 t31 n (IntKind.wrap .u64 ((2 : Int) * x38)) (IntKind.wrap .i64 (x39 - (1 : Int)))
    else
      some (x38, x39)
def halterref02_Mul.l1_S (t1 : Bool) (t2 : Bool) (t19 : Bool × Int × Int × Bool) (t20 : Bool × Int × Int × Bool) (t31 : Int × Int) (x38 : Int) (x39 : Int) : St := ⟨[.any, .any, .any, .any, .any, .v (.one (.sc (.bool (!(t1 == t2))))), .v (.one (.ptr 0 ⟨0, 0, 0, 0⟩)), .v (.one (.ptr 1 ⟨0, 0, 0, 0⟩)), .any, .any, .any, .any, .any, .any, .any, .any, .any, .any, .any, .any, .any, .any, .any, .any, .any, .any, .any, .any, .any, .any, .any, .any, .any, .any, .any, .any, .any, .any, .any, .any, .any, .any, .any, .any, .any, .any, .any, .any, .any, .any, .any, .any, .any, .any, .any, .any, .any, .any, .any, .any, .any, .any, .any, .any, .any, .any, .any, .any, .any, .any, .any, .any, .any, .any, .any, .any, .any, .any, .any, .any, .any, .any, .any, .any, .any, .any, .any, .any, .any, .any, .any, .any, .any, .any, .any, .any, .any, .any, .any, .any, .any, .any, .any, .any, .any, .any, .any, .any, .any], [.ex false [.c (.sc (.bool t19.1)), .c (.sc (.int .u64 t31.1)), .c (.sc (.int .i64 t31.2)), .c (.sc (.bool t19.2.2.2))] 93, .ex false [.c (.sc (.bool t20.1)), .c (.sc (.int .u64 x38)), .c (.sc (.int .i64 x39)), .c (.sc (.bool t20.2.2.2))] 93], 0⟩
def halterref02_Mul.l1_Q (t1 : Bool) (t2 : Bool) (t19 : Bool × Int × Int × Bool) (t20 : Bool × Int × Int × Bool) (t31 : Int × Int) (t : Int × Int) : Exit → St → Prop := fun e s => e = (.exit 2) ∧ s = ⟨[.any, .any, .any, .any, .any, .v (.one (.sc (.bool (!(t1 == t2))))), .v (.one (.ptr 0 ⟨0, 0, 0, 0⟩)), .v (.one (.ptr 1 ⟨0, 0, 0, 0⟩)), .any, .any, .any, .any, .any, .any, .any, .any, .any, .any, .any, .any, .any, .any, .any, .any, .any, .any, .any, .any, .any, .any, .any, .any, .any, .any, .any, .any, .any, .any, .any, .any, .any, .any, .any, .any, .any, .any, .any, .any, .any, .any, .any, .any, .any, .any, .any, .any, .any, .any, .any, .any, .any, .any, .any, .any, .any, .any, .any, .any, .any, .any, .any, .any, .any, .any, .any, .any, .any, .any, .any, .any, .any, .any, .any, .any, .any, .any, .any, .any, .any, .any, .any, .any, .any, .any, .any, .any, .any, .any, .any, .any, .any, .any, .any, .any, .any, .any, .any, .any, .any], [.ex false [.c (.sc (.bool t19.1)), .c (.sc (.int .u64 t31.1)), .c (.sc (.int .i64 t31.2)), .c (.sc (.bool t19.2.2.2))] 93, .ex false [.c (.sc (.bool t20.1)), .c (.sc (.int .u64 t.1)), .c (.sc (.int .i64 t.2)), .c (.sc (.bool t20.2.2.2))] 93], 0⟩
theorem halterref02_Mul.l1_ok (t1 : Bool) (t2 : Bool) (t19 : Bool × Int × Int × Bool) (t20 : Bool × Int × Int × Bool) (t31 : Int × Int) : ∀ (n : Nat) (x38 : Int) (x39 : Int) (r : Int × Int), halterref02_Mul.l1 t1 t2 t19 t20 t31 n x38 x39 = some r → TripN cfg (cpath (Tryd.f38.body.getD .skip) [1, 1, 1, 1, 1, 1, 1, 0, 0, 0]) n (halterref02_Mul.l1_S t1 t2 t19 t20 t31 x38 x39) (halterref02_Mul.l1_Q t1 t2 t19 t20 t31 r) := by
  intro n
  induction n with
  | zero => intro x38 x39 r h; cases h
  | succ n ih =>
    intro x38 x39 r h
    rw [halterref02_Mul.l1] at h
    refine TripN.of_run cfg_ok (k := (.br (aE 3 (.adj [.keep [5, 6, 7], .drop 2] .nil)) (.adj [.keep [5, 6, 7], .drop 2] .nil))) (to_goal (q := (True) ∧ (True) ∧ (((decide (x38 < (4503599627370496 : Int))) = true → (True ∧ (True ∧ (True ∧ (True) ∧ (True) ∧ (True) ∧ (True) ∧ (True) ∧ (True) ∧ (((True) ∧ (True) ∧ True) ∧ TripN cfg (cpath (Tryd.f38.body.getD .skip) [1, 1, 1, 1, 1, 1, 1, 0, 0, 0]) n (halterref02_Mul.l1_S t1 t2 t19 t20 t31 (IntKind.wrap .u64 ((2 : Int) * x38)) (IntKind.wrap .i64 (x39 - (1 : Int)))) (halterref02_Mul.l1_Q t1 t2 t19 t20 t31 r)))))) ∧ ((decide (x38 < (4503599627370496 : Int))) = false → (((True) ∧ (True) ∧ True) ∧ halterref02_Mul.l1_Q t1 t2 t19 t20 t31 r (.exit 2) ⟨[.any, .any, .any, .any, .any, .v (.one (.sc (.bool (!(t1 == t2))))), .v (.one (.ptr 0 ⟨0, 0, 0, 0⟩)), .v (.one (.ptr 1 ⟨0, 0, 0, 0⟩)), .any, .any, .any, .any, .any, .any, .any, .any, .any, .any, .any, .any, .any, .any, .any, .any, .any, .any, .any, .any, .any, .any, .any, .any, .any, .any, .any, .any, .any, .any, .any, .any, .any, .any, .any, .any, .any, .any, .any, .any, .any, .any, .any, .any, .any, .any, .any, .any, .any, .any, .any, .any, .any, .any, .any, .any, .any, .any, .any, .any, .any, .any, .any, .any, .any, .any, .any, .any, .any, .any, .any, .any, .any, .any, .any, .any, .any, .any, .any, .any, .any, .any, .any, .any, .any, .any, .any, .any, .any, .any, .any, .any, .any, .any, .any, .any, .any, .any, .any, .any, .any], [.ex false [.c (.sc (.bool t19.1)), .c (.sc (.int .u64 t31.1)), .c (.sc (.int .i64 t31.2)), .c (.sc (.bool (z3 t19)))] 93, .ex false [.c (.sc (.bool t20.1)), .c (.sc (.int .u64 x38)), .c (.sc (.int .i64 x39)), .c (.sc (.bool (z3 t20)))] 93], 0⟩)))) (by kernel_rfl) ?_)
    refine ⟨trivial, trivial, ?_⟩
    refine ⟨fun b44 => ?_, fun b44 => ?_⟩
    · rw [if_pos (of_decide_eq_true b44)] at h
      refine ⟨trivial, trivial, trivial, trivial, trivial, trivial, trivial, trivial, trivial, ?_⟩
      exact ⟨⟨trivial, trivial, trivial⟩, ih (IntKind.wrap .u64 ((2 : Int) * x38)) (IntKind.wrap .i64 (x39 - (1 : Int))) r h⟩
    · rw [if_neg (of_decide_eq_false b44)] at h
      obtain rfl := Option.some.inj h
      exact ⟨⟨trivial, trivial, trivial⟩, rfl, rfl⟩
def halterref02_Mul.l2 (t1 : Bool) (t2 : Bool) (t57 : Bool × Int × Int × Bool) (t58 : Bool × Int × Int × Bool) : Nat → Int → Int → Option (Int × Int)
  | 0, _, _ => none
  | n + 1, x64, x65 =>
    if x64 < (4503599627370496 : Int) then
      halterref02_Mul.l2 t1 t2 t57 t58 n (IntKind.wrap .u64 ((2 : Int) * x64)) (IntKind.wrap .i64 (x65 - (1 : Int)))
    else
      some (x64, x65)
def halterref02_Mul.l2_S (t1 : Bool) (t2 : Bool) (t57 : Bool × Int × Int × Bool) (t58 : Bool × Int × Int × Bool) (x64 : Int) (x65 : Int) : St := ⟨[.any, .any, .any, .any, .any, .v (.one (.sc (.bool (!(t1 == t2))))), .v (.one (.ptr 0 ⟨0, 0, 0, 0⟩)), .v (.one (.ptr 1 ⟨0, 0, 0, 0⟩)), .any, .any, .any, .any, .any, .any, .any, .any, .any, .any, .any, .any, .any, .any, .any, .any, .any, .any, .any, .any, .any, .any, .any, .any, .any, .any, .any, .any, .any, .any, .any, .any, .any, .any, .any, .any, .any, .any, .any, .any, .any, .any, .any, .any, .any, .any, .any, .any, .any, .any, .any, .any, .any, .any, .any, .any, .any, .any, .any, .any, .any, .any, .any, .any, .any, .any, .any, .any, .any, .any, .any, .any, .any, .any, .any, .any, .any, .any, .any, .any, .any, .any, .any, .any, .any, .any, .any, .any, .any, .any, .any, .any, .any, .any, .any, .any, .any, .any, .any, .any, .any], [.ex false [.c (.sc (.bool t57.1)), .c (.sc (.int .u64 x64)), .c (.sc (.int .i64 x65)), .c (.sc (.bool t57.2.2.2))] 93, .ex false [.c (.sc (.bool t58.1)), .c (.sc (.int .u64 t58.2.1)), .c (.sc (.int .i64 t58.2.2.1)), .c (.sc (.bool t58.2.2.2))] 93], 0⟩
def halterref02_Mul.l2_Q (t1 : Bool) (t2 : Bool) (t57 : Bool × Int × Int × Bool) (t58 : Bool × Int × Int × Bool) (t : Int × Int) : Exit → St → Prop := fun e s => e = (.exit 0) ∧ s = ⟨[.any, .any, .any, .any, .any, .v (.one (.sc (.bool (!(t1 == t2))))), .v (.one (.ptr 0 ⟨0, 0, 0, 0⟩)), .v (.one (.ptr 1 ⟨0, 0, 0, 0⟩)), .any, .any, .any, .any, .any, .any, .any, .any, .any, .any, .any, .any, .any, .any, .any, .any, .any, .any, .any, .any, .any, .any, .any, .any, .any, .any, .any, .any, .any, .any, .any, .any, .any, .any, .any, .any, .any, .any, .any, .any, .any, .any, .any, .any, .any, .any, .any, .any, .any, .any, .any, .any, .any, .any, .any, .any, .any, .any, .any, .any, .any, .any, .any, .any, .any, .any, .any, .any, .any, .any, .any, .any, .any, .any, .any, .any, .any, .any, .any, .any, .any, .any, .any, .any, .any, .any, .any, .any, .any, .any, .any, .any, .any, .any, .any, .any, .any, .any, .any, .any, .any], [.ex false [.c (.sc (.bool t57.1)), .c (.sc (.int .u64 t.1)), .c (.sc (.int .i64 t.2)), .c (.sc (.bool t57.2.2.2))] 93, .ex false [.c (.sc (.bool t58.1)), .c (.sc (.int .u64 t58.2.1)), .c (.sc (.int .i64 t58.2.2.1)), .c (.sc (.bool t58.2.2.2))] 93], 0⟩
theorem halterref02_Mul.l2_ok (t1 : Bool) (t2 : Bool) (t57 : Bool × Int × Int × Bool) (t58 : Bool × Int × Int × Bool) : ∀ (n : Nat) (x64 : Int) (x65 : Int) (r : Int × Int), halterref02_Mul.l2 t1 t2 t57 t58 n x64 x65 = some r → TripN cfg (cpath (Tryd.f38.body.getD .skip) [1, 1, 1, 1, 1, 1, 0, 0, 0]) n (halterref02_Mul.l2_S t1 t2 t57 t58 x64 x65) (halterref02_Mul.l2_Q t1 t2 t57 t58 r) := by
  intro n
  induction n with
  | zero => intro x64 x65 r h; cases h
  | succ n ih =>
    intro x64 x65 r h
    rw [halterref02_Mul.l2] at h
    refine TripN.of_run cfg_ok (k := (.br (aE 3 (.adj [.keep [5, 6, 7], .drop 2] .nil)) (.adj [.keep [5, 6, 7], .drop 2] .nil))) (to_goal (q := (True) ∧ (True) ∧ (((decide (x64 < (4503599627370496 : Int))) = true → (True ∧ (True ∧ (True ∧ (True) ∧ (True) ∧ (True) ∧ (True) ∧ (True) ∧ (True) ∧ (((True) ∧ (True) ∧ True) ∧ TripN cfg (cpath (Tryd.f38.body.getD .skip) [1, 1, 1, 1, 1, 1, 0, 0, 0]) n (halterref02_Mul.l2_S t1 t2 t57 t58 (IntKind.wrap .u64 ((2 : Int) * x64)) (IntKind.wrap .i64 (x65 - (1 : Int)))) (halterref02_Mul.l2_Q t1 t2 t57 t58 r)))))) ∧ ((decide (x64 < (4503599627370496 : Int))) = false → (((True) ∧ (True) ∧ True) ∧ halterref02_Mul.l2_Q t1 t2 t57 t58 r (.exit 0) ⟨[.any, .any, .any, .any, .any, .v (.one (.sc (.bool (!(t1 == t2))))), .v (.one (.ptr 0 ⟨0, 0, 0, 0⟩)), .v (.one (.ptr 1 ⟨0, 0, 0, 0⟩)), .any, .any, .any, .any, .any, .any, .any, .any, .any, .any, .any, .any, .any, .any, .any, .any, .any, .any, .any, .any, .any, .any, .any, .any, .any, .any, .any, .any, .any, .any, .any, .any, .any, .any, .any, .any, .any, .any, .any, .any, .any, .any, .any, .any, .any, .any, .any, .any, .any, .any, .any, .any, .any, .any, .any, .any, .any, .any, .any, .any, .any, .any, .any, .any, .any, .any, .any, .any, .any, .any, .any, .any, .any, .any, .any, .any, .any, .any, .any, .any, .any, .any, .any, .any, .any, .any, .any, .any, .any, .any, .any, .any, .any, .any, .any, .any, .any, .any, .any, .any, .any], [.ex false [.c (.sc (.bool t57.1)), .c (.sc (.int .u64 x64)), .c (.sc (.int .i64 x65)), .c (.sc (.bool (z3 t57)))] 93, .ex false [.c (.sc (.bool t58.1)), .c (.sc (.int .u64 t58.2.1)), .c (.sc (.int .i64 (p2 t58))), .c (.sc (.bool (z3 t58)))] 93], 0⟩)))) (by kernel_rfl) ?_)
    refine ⟨trivial, trivial, ?_⟩
    refine ⟨fun b70 => ?_, fun b70 => ?_⟩
    · rw [if_pos (of_decide_eq_true b70)] at h
      refine ⟨trivial, trivial, trivial, trivial, trivial, trivial, trivial, trivial, trivial, ?_⟩
      exact ⟨⟨trivial, trivial, trivial⟩, ih (IntKind.wrap .u64 ((2 : Int) * x64)) (IntKind.wrap .i64 (x65 - (1 : Int))) r h⟩
    · rw [if_neg (of_decide_eq_false b70)] at h
      obtain rfl := Option.some.inj h
      exact ⟨⟨trivial, trivial, trivial⟩, rfl, rfl⟩
def halterref02_Mul.l3 (t1 : Bool) (t2 : Bool) (t57 : Bool × Int × Int × Bool) (t58 : Bool × Int × Int × Bool) (t69 : Int × Int) : Nat → Int → Int → Option (Int × Int)
  | 0, _, _ => none
  | n + 1, x76, x77 =>
    if x76 < (4503599627370496 : Int) then
      halterref02_Mul.l3 t1 t2 t57 t58 t69 n (IntKind.wrap .u64 ((2 : Int) * x76)) (IntKind.wrap .i64 (x77 - (1 : Int)))
    else
      some (x76, x77)
def halterref02_Mul.l3_S (t1 : Bool) (t2 : Bool) (t57 : Bool × Int × Int × Bool) (t58 : Bool × Int × Int × Bool) (t69 : Int × Int) (x76 : Int) (x77 : Int) : St := ⟨[.any, .any, .any, .any, .any, .v (.one (.sc (.bool (!(t1 == t2))))), .v (.one (.ptr 0 ⟨0, 0, 0, 0⟩)), .v (.one (.ptr 1 ⟨0, 0, 0, 0⟩)), .any, .any, .any, .any, .any, .any, .any, .any, .any, .any, .any, .any, .any, .any, .any, .any, .any, .any, .any, .any, .any, .any, .any, .any, .any, .any, .any, .any, .any, .any, .any, .any, .any, .any, .any, .any, .any, .any, .any, .any, .any, .any, .any, .any, .any, .any, .any, .any, .any, .any, .any, .any, .any, .any, .any, .any, .any, .any, .any, .any, .any, .any, .any, .any, .any, .any, .any, .any, .any, .any, .any, .any, .any, .any, .any, .any, .any, .any, .any, .any, .any, .any, .any, .any, .any, .any, .any, .any, .any, .any, .any, .any, .any, .any, .any, .any, .any, .any, .any, .any, .any], [.ex false [.c (.sc (.bool t57.1)), .c (.sc (.int .u64 t69.1)), .c (.sc (.int .i64 t69.2)), .c (.sc (.bool t57.2.2.2))] 93, .ex false [.c (.sc (.bool t58.1)), .c (.sc (.int .u64 x76)), .c (.sc (.int .i64 x77)), .c (.sc (.bool t58.2.2.2))] 93], 0⟩
def halterref02_Mul.l3_Q (t1 : Bool) (t2 : Bool) (t57 : Bool × Int × Int × Bool) (t58 : Bool × Int × Int × Bool) (t69 : Int × Int) (t : Int × Int) : Exit → St → Prop := fun e s => e = (.exit 2) ∧ s = ⟨[.any, .any, .any, .any, .any, .v (.one (.sc (.bool (!(t1 == t2))))), .v (.one (.ptr 0 ⟨0, 0, 0, 0⟩)), .v (.one (.ptr 1 ⟨0, 0, 0, 0⟩)), .any, .any, .any, .any, .any, .any, .any, .any, .any, .any, .any, .any, .any, .any, .any, .any, .any, .any, .any, .any, .any, .any, .any, .any, .any, .any, .any, .any, .any, .any, .any, .any, .any, .any, .any, .any, .any, .any, .any, .any, .any, .any, .any, .any, .any, .any, .any, .any, .any, .any, .any, .any, .any, .any, .any, .any, .any, .any, .any, .any, .any, .any, .any, .any, .any, .any, .any, .any, .any, .any, .any, .any, .any, .any, .any, .any, .any, .any, .any, .any, .any, .any, .any, .any, .any, .any, .any, .any, .any, .any, .any, .any, .any, .any, .any, .any, .any, .any, .any, .any, .any], [.ex false [.c (.sc (.bool t57.1)), .c (.sc (.int .u64 t69.1)), .c (.sc (.int .i64 t69.2)), .c (.sc (.bool t57.2.2.2))] 93, .ex false [.c (.sc (.bool t58.1)), .c (.sc (.int .u64 t.1)), .c (.sc (.int .i64 t.2)), .c (.sc (.bool t58.2.2.2))] 93], 0⟩
theorem halterref02_Mul.l3_ok (t1 : Bool) (t2 : Bool) (t57 : Bool × Int × Int × Bool) (t58 : Bool × Int × Int × Bool) (t69 : Int × Int) : ∀ (n : Nat) (x76 : Int) (x77 : Int) (r : Int × Int), halterref02_Mul.l3 t1 t2 t57 t58 t69 n x76 x77 = some r → TripN cfg (cpath (Tryd.f38.body.getD .skip) [1, 1, 1, 1, 1, 1, 1, 0, 0, 0]) n (halterref02_Mul.l3_S t1 t2 t57 t58 t69 x76 x77) (halterref02_Mul.l3_Q t1 t2 t57 t58 t69 r) := by
  intro n
  induction n with
  | zero => intro x76 x77 r h; cases h
  | succ n ih =>
    intro x76 x77 r h
    rw [halterref02_Mul.l3] at h
    refine TripN.of_run cfg_ok (k := (.br (aE 3 (.adj [.keep [5, 6, 7], .drop 2] .nil)) (.adj [.keep [5, 6, 7], .drop 2] .nil))) (to_goal (q := (True) ∧ (True) ∧ (((decide (x76 < (4503599627370496 : Int))) = true → (True ∧ (True ∧ (True ∧ (True) ∧ (True) ∧ (True) ∧ (True) ∧ (True) ∧ (True) ∧ (((True) ∧ (True) ∧ True) ∧ TripN cfg (cpath (Tryd.f38.body.getD .skip) [1, 1, 1, 1, 1, 1, 1, 0, 0, 0]) n (halterref02_Mul.l3_S t1 t2 t57 t58 t69 (IntKind.wrap .u64 ((2 : Int) * x76)) (IntKind.wrap .i64 (x77 - (1 : Int)))) (halterref02_Mul.l3_Q t1 t2 t57 t58 t69 r)))))) ∧ ((decide (x76 < (4503599627370496 : Int))) = false → (((True) ∧ (True) ∧ True) ∧ halterref02_Mul.l3_Q t1 t2 t57 t58 t69 r (.exit 2) ⟨[.any, .any, .any, .any, .any, .v (.one (.sc (.bool (!(t1 == t2))))), .v (.one (.ptr 0 ⟨0, 0, 0, 0⟩)), .v (.one (.ptr 1 ⟨0, 0, 0, 0⟩)), .any, .any, .any, .any, .any, .any, .any, .any, .any, .any, .any, .any, .any, .any, .any, .any, .any, .any, .any, .any, .any, .any, .any, .any, .any, .any, .any, .any, .any, .any, .any, .any, .any, .any, .any, .any, .any, .any, .any, .any, .any, .any, .any, .any, .any, .any, .any, .any, .any, .any, .any, .any, .any, .any, .any, .any, .any, .any, .any, .any, .any, .any, .any, .any, .any, .any, .any, .any, .any, .any, .any, .any, .any, .any, .any, .any, .any, .any, .any, .any, .any, .any, .any, .any, .any, .any, .any, .any, .any, .any, .any, .any, .any, .any, .any, .any, .any, .any, .any, .any, .any], [.ex false [.c (.sc (.bool t57.1)), .c (.sc (.int .u64 t69.1)), .c (.sc (.int .i64 t69.2)), .c (.sc (.bool (z3 t57)))] 93, .ex false [.c (.sc (.bool t58.1)), .c (.sc (.int .u64 x76)), .c (.sc (.int .i64 x77)), .c (.sc (.bool (z3 t58)))] 93], 0⟩)))) (by kernel_rfl) ?_)
    refine ⟨trivial, trivial, ?_⟩
    refine ⟨fun b82 => ?_, fun b82 => ?_⟩
    · rw [if_pos (of_decide_eq_true b82)] at h
      refine ⟨trivial, trivial, trivial, trivial, trivial, trivial, trivial, trivial, trivial, ?_⟩
      exact ⟨⟨trivial, trivial, trivial⟩, ih (IntKind.wrap .u64 ((2 : Int) * x76)) (IntKind.wrap .i64 (x77 - (1 : Int))) r h⟩
    · rw [if_neg (of_decide_eq_false b82)] at h
      obtain rfl := Option.some.inj h
      exact ⟨⟨trivial, trivial, trivial⟩, rfl, rfl⟩
def halterref02_Mul.l4 (t1 : Bool) (t2 : Bool) (t99 : Bool × Int × Int × Bool) (t100 : Bool × Int × Int × Bool) : Nat → Int → Int → Option (Int × Int)
  | 0, _, _ => none
  | n + 1, x106, x107 =>
    if x106 < (4503599627370496 : Int) then
      halterref02_Mul.l4 t1 t2 t99 t100 n (IntKind.wrap .u64 ((2 : Int) * x106)) (IntKind.wrap .i64 (x107 - (1 : Int)))
    else
      some (x106, x107)
def halterref02_Mul.l4_S (t1 : Bool) (t2 : Bool) (t99 : Bool × Int × Int × Bool) (t100 : Bool × Int × Int × Bool) (x106 : Int) (x107 : Int) : St := ⟨[.any, .any, .any, .any, .any, .v (.one (.sc (.bool (!(t1 == t2))))), .v (.one (.ptr 0 ⟨0, 0, 0, 0⟩)), .v (.one (.ptr 1 ⟨0, 0, 0, 0⟩)), .any, .any, .any, .any, .any, .any, .any, .any, .any, .any, .any, .any, .any, .any, .any, .any, .any, .any, .any, .any, .any, .any, .any, .any, .any, .any, .any, .any, .any, .any, .any, .any, .any, .any, .any, .any, .any, .any, .any, .any, .any, .any, .any, .any, .any, .any, .any, .any, .any, .any, .any, .any, .any, .any, .any, .any, .any, .any, .any, .any, .any, .any, .any, .any, .any, .any, .any, .any, .any, .any, .any, .any, .any, .any, .any, .any, .any, .any, .any, .any, .any, .any, .any, .any, .any, .any, .any, .any, .any, .any, .any, .any, .any, .any, .any, .any, .any, .any, .any, .any, .any], [.ex false [.c (.sc (.bool t99.1)), .c (.sc (.int .u64 x106)), .c (.sc (.int .i64 x107)), .c (.sc (.bool t99.2.2.2))] 93, .ex false [.c (.sc (.bool t100.1)), .c (.sc (.int .u64 t100.2.1)), .c (.sc (.int .i64 t100.2.2.1)), .c (.sc (.bool t100.2.2.2))] 93], 0⟩
def halterref02_Mul.l4_Q (t1 : Bool) (t2 : Bool) (t99 : Bool × Int × Int × Bool) (t100 : Bool × Int × Int × Bool) (t : Int × Int) : Exit → St → Prop := fun e s => e = (.exit 0) ∧ s = ⟨[.any, .any, .any, .any, .any, .v (.one (.sc (.bool (!(t1 == t2))))), .v (.one (.ptr 0 ⟨0, 0, 0, 0⟩)), .v (.one (.ptr 1 ⟨0, 0, 0, 0⟩)), .any, .any, .any, .any, .any, .any, .any, .any, .any, .any, .any, .any, .any, .any, .any, .any, .any, .any, .any, .any, .any, .any, .any, .any, .any, .any, .any, .any, .any, .any, .any, .any, .any, .any, .any, .any, .any, .any, .any, .any, .any, .any, .any, .any, .any, .any, .any, .any, .any, .any, .any, .any, .any, .any, .any, .any, .any, .any, .any, .any, .any, .any, .any, .any, .any, .any, .any, .any, .any, .any, .any, .any, .any, .any, .any, .any, .any, .any, .any, .any, .any, .any, .any, .any, .any, .any, .any, .any, .any, .any, .any, .any, .any, .any, .any, .any, .any, .any, .any, .any, .any], [.ex false [.c (.sc (.bool t99.1)), .c (.sc (.int .u64 t.1)), .c (.sc (.int .i64 t.2)), .c (.sc (.bool t99.2.2.2))] 93, .ex false [.c (.sc (.bool t100.1)), .c (.sc (.int .u64 t100.2.1)), .c (.sc (.int .i64 t100.2.2.1)), .c (.sc (.bool t100.2.2.2))] 93], 0⟩
theorem halterref02_Mul.l4_ok (t1 : Bool) (t2 : Bool) (t99 : Bool × Int × Int × Bool) (t100 : Bool × Int × Int × Bool) : ∀ (n : Nat) (x106 : Int) (x107 : Int) (r : Int × Int), halterref02_Mul.l4 t1 t2 t99 t100 n x106 x107 = some r → TripN cfg (cpath (Tryd.f38.body.getD .skip) [1, 1, 1, 1, 1, 1, 0, 0, 0]) n (halterref02_Mul.l4_S t1 t2 t99 t100 x106 x107) (halterref02_Mul.l4_Q t1 t2 t99 t100 r) := by
  intro n
  induction n with
  | zero => intro x106 x107 r h; cases h
  | succ n ih =>
    intro x106 x107 r h
    rw [halterref02_Mul.l4] at h
    refine TripN.of_run cfg_ok (k := (.br (aE 3 (.adj [.keep [5, 6, 7], .drop 2] .nil)) (.adj [.keep [5, 6, 7], .drop 2] .nil))) (to_goal (q := (True) ∧ (True) ∧ (((decide (x106 < (4503599627370496 : Int))) = true → (True ∧ (True ∧ (True ∧ (True) ∧ (True) ∧ (True) ∧ (True) ∧ (True) ∧ (True) ∧ (((True) ∧ (True) ∧ True) ∧ TripN cfg (cpath (Tryd.f38.body.getD .skip) [1, 1, 1, 1, 1, 1, 0, 0, 0]) n (halterref02_Mul.l4_S t1 t2 t99 t100 (IntKind.wrap .u64 ((2 : Int) * x106)) (IntKind.wrap .i64 (x107 - (1 : Int)))) (halterref02_Mul.l4_Q t1 t2 t99 t100 r)))))) ∧ ((decide (x106 < (4503599627370496 : Int))) = false → (((True) ∧ (True) ∧ True) ∧ halterref02_Mul.l4_Q t1 t2 t99 t100 r (.exit 0) ⟨[.any, .any, .any, .any, .any, .v (.one (.sc (.bool (!(t1 == t2))))), .v (.one (.ptr 0 ⟨0, 0, 0, 0⟩)), .v (.one (.ptr 1 ⟨0, 0, 0, 0⟩)), .any, .any, .any, .any, .any, .any, .any, .any, .any, .any, .any, .any, .any, .any, .any, .any, .any, .any, .any, .any, .any, .any, .any, .any, .any, .any, .any, .any, .any, .any, .any, .any, .any, .any, .any, .any, .any, .any, .any, .any, .any, .any, .any, .any, .any, .any, .any, .any, .any, .any, .any, .any, .any, .any, .any, .any, .any, .any, .any, .any, .any, .any, .any, .any, .any, .any, .any, .any, .any, .any, .any, .any, .any, .any, .any, .any, .any, .any, .any, .any, .any, .any, .any, .any, .any, .any, .any, .any, .any, .any, .any, .any, .any, .any, .any, .any, .any, .any, .any, .any, .any], [.ex false [.c (.sc (.bool t99.1)), .c (.sc (.int .u64 x106)), .c (.sc (.int .i64 x107)), .c (.sc (.bool (z3 t99)))] 93, .ex false [.c (.sc (.bool t100.1)), .c (.sc (.int .u64 t100.2.1)), .c (.sc (.int .i64 (p2 t100))), .c (.sc (.bool (z3 t100)))] 93], 0⟩)))) (by kernel_rfl) ?_)
    refine ⟨trivial, trivial, ?_⟩
    refine ⟨fun b112 => ?_, fun b112 => ?_⟩
    · rw [if_pos (of_decide_eq_true b112)] at h
      refine ⟨trivial, trivial, trivial, trivial, trivial, trivial, trivial, trivial, trivial, ?_⟩
      exact ⟨⟨trivial, trivial, trivial⟩, ih (IntKind.wrap .u64 ((2 : Int) * x106)) (IntKind.wrap .i64 (x107 - (1 : Int))) r h⟩
    · rw [if_neg (of_decide_eq_false b112)] at h
      obtain rfl := Option.some.inj h
      exact ⟨⟨trivial, trivial, trivial⟩, rfl, rfl⟩
def halterref02_Mul.l5 (t1 : Bool) (t2 : Bool) (t99 : Bool × Int × Int × Bool) (t100 : Bool × Int × Int × Bool) (t111 : Int × Int) : Nat → Int → Int → Option (Int × Int)
  | 0, _, _ => none
  | n + 1, x118, x119 =>
    if x118 < (4503599627370496 : Int) then
      halterref02_Mul.l5 t1 t2 t99 t100 t111 n (IntKind.wrap .u64 ((2 : Int) * x118)) (IntKind.wrap .i64 (x119 - (1 : Int)))
    else
      some (x118, x119)
def halterref02_Mul.l5_S (t1 : Bool) (t2 : Bool) (t99 : Bool × Int × Int × Bool) (t100 : Bool × Int × Int × Bool) (t111 : Int × Int) (x118 : Int) (x119 : Int) : St := ⟨[.any, .any, .any, .any, .any, .v (.one (.sc (.bool (!(t1 == t2))))), .v (.one (.ptr 0 ⟨0, 0, 0, 0⟩)), .v (.one (.ptr 1 ⟨0, 0, 0, 0⟩)), .any, .any, .any, .any, .any, .any, .any, .any, .any, .any, .any, .any, .any, .any, .any, .any, .any, .any, .any, .any, .any, .any, .any, .any, .any, .any, .any, .any, .any, .any, .any, .any, .any, .any, .any, .any, .any, .any, .any, .any, .any, .any, .any, .any, .any, .any, .any, .any, .any, .any, .any, .any, .any, .any, .any, .any, .any, .any, .any, .any, .any, .any, .any, .any, .any, .any, .any, .any, .any, .any, .any, .any, .any, .any, .any, .any, .any, .any, .any, .any, .any, .any, .any, .any, .any, .any, .any, .any, .any, .any, .any, .any, .any, .any, .any, .any, .any, .any, .any, .any, .any], [.ex false [.c (.sc (.bool t99.1)), .c (.sc (.int .u64 t111.1)), .c (.sc (.int .i64 t111.2)), .c (.sc (.bool t99.2.2.2))] 93, .ex false [.c (.sc (.bool t100.1)), .c (.sc (.int .u64 x118)), .c (.sc (.int .i64 x119)), .c (.sc (.bool t100.2.2.2))] 93], 0⟩
def halterref02_Mul.l5_Q (t1 : Bool) (t2 : Bool) (t99 : Bool × Int × Int × Bool) (t100 : Bool × Int × Int × Bool) (t111 : Int × Int) (t : Int × Int) : Exit → St → Prop := fun e s => e = (.exit 2) ∧ s = ⟨[.any, .any, .any, .any, .any, .v (.one (.sc (.bool (!(t1 == t2))))), .v (.one (.ptr 0 ⟨0, 0, 0, 0⟩)), .v (.one (.ptr 1 ⟨0, 0, 0, 0⟩)), .any, .any, .any, .any, .any, .any, .any, .any, .any, .any, .any, .any, .any, .any, .any, .any, .any, .any, .any, .any, .any, .any, .any, .any, .any, .any, .any, .any, .any, .any, .any, .any, .any, .any, .any, .any, .any, .any, .any, .any, .any, .any, .any, .any, .any, .any, .any, .any, .any, .any, .any, .any, .any, .any, .any, .any, .any, .any, .any, .any, .any, .any, .any, .any, .any, .any, .any, .any, .any, .any, .any, .any, .any, .any, .any, .any, .any, .any, .any, .any, .any, .any, .any, .any, .any, .any, .any, .any, .any, .any, .any, .any, .any, .any, .any, .any, .any, .any, .any, .any, .any], [.ex false [.c (.sc (.bool t99.1)), .c (.sc (.int .u64 t111.1)), .c (.sc (.int .i64 t111.2)), .c (.sc (.bool t99.2.2.2))] 93, .ex false [.c (.sc (.bool t100.1)), .c (.sc (.int .u64 t.1)), .c (.sc (.int .i64 t.2)), .c (.sc (.bool t100.2.2.2))] 93], 0⟩
theorem halterref02_Mul.l5_ok (t1 : Bool) (t2 : Bool) (t99 : Bool × Int × Int × Bool) (t100 : Bool × Int × Int × Bool) (t111 : Int × Int) : ∀ (n : Nat) (x118 : Int) (x119 : Int) (r : Int × Int), halterref02_Mul.l5 t1 t2 t99 t100 t111 n x118 x119 = some r → TripN cfg (cpath (Tryd.f38.body.getD .skip) [1, 1, 1, 1, 1, 1, 1, 0, 0, 0]) n (halterref02_Mul.l5_S t1 t2 t99 t100 t111 x118 x119) (halterref02_Mul.l5_Q t1 t2 t99 t100 t111 r) := by
  intro n
  induction n with
  | zero => intro x118 x119 r h; cases h
  | succ n ih =>
    intro x118 x119 r h
    rw [halterref02_Mul.l5] at h
    refine TripN.of_run cfg_ok (k := (.br (aE 3 (.adj [.keep [5, 6, 7], .drop 2] .nil)) (.adj [.keep [5, 6, 7], .drop 2] .nil))) (to_goal (q := (True) ∧ (True) ∧ (((decide (x118 < (4503599627370496 : Int))) = true → (True ∧ (True ∧ (True ∧ (True) ∧ (True) ∧ (True) ∧ (True) ∧ (True) ∧ (True) ∧ (((True) ∧ (True) ∧ True) ∧ TripN cfg (cpath (Tryd.f38.body.getD .skip) [1, 1, 1, 1, 1, 1, 1, 0, 0, 0]) n (halterref02_Mul.l5_S t1 t2 t99 t100 t111 (IntKind.wrap .u64 ((2 : Int) * x118)) (IntKind.wrap .i64 (x119 - (1 : Int)))) (halterref02_Mul.l5_Q t1 t2 t99 t100 t111 r)))))) ∧ ((decide (x118 < (4503599627370496 : Int))) = false → (((True) ∧ (True) ∧ True) ∧ halterref02_Mul.l5_Q t1 t2 t99 t100 t111 r (.exit 2) ⟨[.any, .any, .any, .any, .any, .v (.one (.sc (.bool (!(t1 == t2))))), .v (.one (.ptr 0 ⟨0, 0, 0, 0⟩)), .v (.one (.ptr 1 ⟨0, 0, 0, 0⟩)), .any, .any, .any, .any, .any, .any, .any, .any, .any, .any, .any, .any, .any, .any, .any, .any, .any, .any, .any, .any, .any, .any, .any, .any, .any, .any, .any, .any, .any, .any, .any, .any, .any, .any, .any, .any, .any, .any, .any, .any, .any, .any, .any, .any, .any, .any, .any, .any, .any, .any, .any, .any, .any, .any, .any, .any, .any, .any, .any, .any, .any, .any, .any, .any, .any, .any, .any, .any, .any, .any, .any, .any, .any, .any, .any, .any, .any, .any, .any, .any, .any, .any, .any, .any, .any, .any, .any, .any, .any, .any, .any, .any, .any, .any, .any, .any, .any, .any, .any, .any, .any], [.ex false [.c (.sc (.bool t99.1)), .c (.sc (.int .u64 t111.1)), .c (.sc (.int .i64 t111.2)), .c (.sc (.bool (z3 t99)))] 93, .ex false [.c (.sc (.bool t100.1)), .c (.sc (.int .u64 x118)), .c (.sc (.int .i64 x119)), .c (.sc (.bool (z3 t100)))] 93], 0⟩)))) (by kernel_rfl) ?_)
    refine ⟨trivial, trivial, ?_⟩
    refine ⟨fun b124 => ?_, fun b124 => ?_⟩
    · rw [if_pos (of_decide_eq_true b124)] at h
      refine ⟨trivial, trivial, trivial, trivial, trivial, trivial, trivial, trivial, trivial, ?_⟩
      exact ⟨⟨trivial, trivial, trivial⟩, ih (IntKind.wrap .u64 ((2 : Int) * x118)) (IntKind.wrap .i64 (x119 - (1 : Int))) r h⟩
    · rw [if_neg (of_decide_eq_false b124)] at h
      obtain rfl := Option.some.inj h
      exact ⟨⟨trivial, trivial, trivial⟩, rfl, rfl⟩
def halterref02_Mul.l6 (t1 : Bool) (t2 : Bool) (t137 : Bool × Int × Int × Bool) (t138 : Bool × Int × Int × Bool) : Nat → Int → Int → Option (Int × Int)
  | 0, _, _ => none
  | n + 1, x144, x145 =>
    if x144 < (4503599627370496 : Int) then
      halterref02_Mul.l6 t1 t2 t137 t138 n (IntKind.wrap .u64 ((2 : Int) * x144)) (IntKind.wrap .i64 (x145 - (1 : Int)))
    else
      some (x144, x145)
def halterref02_Mul.l6_S (t1 : Bool) (t2 : Bool) (t137 : Bool × Int × Int × Bool) (t138 : Bool × Int × Int × Bool) (x144 : Int) (x145 : Int) : St := ⟨[.any, .any, .any, .any, .any, .v (.one (.sc (.bool (!(t1 == t2))))), .v (.one (.ptr 0 ⟨0, 0, 0, 0⟩)), .v (.one (.ptr 1 ⟨0, 0, 0, 0⟩)), .any, .any, .any, .any, .any, .any, .any, .any, .any, .any, .any, .any, .any, .any, .any, .any, .any, .any, .any, .any, .any, .any, .any, .any, .any, .any, .any, .any, .any, .any, .any, .any, .any, .any, .any, .any, .any, .any, .any, .any, .any, .any, .any, .any, .any, .any, .any, .any, .any, .any, .any, .any, .any, .any, .any, .any, .any, .any, .any, .any, .any, .any, .any, .any, .any, .any, .any, .any, .any, .any, .any, .any, .any, .any, .any, .any, .any, .any, .any, .any, .any, .any, .any, .any, .any, .any, .any, .any, .any, .any, .any, .any, .any, .any, .any, .any, .any, .any, .any, .any, .any], [.ex false [.c (.sc (.bool t137.1)), .c (.sc (.int .u64 x144)), .c (.sc (.int .i64 x145)), .c (.sc (.bool t137.2.2.2))] 93, .ex false [.c (.sc (.bool t138.1)), .c (.sc (.int .u64 t138.2.1)), .c (.sc (.int .i64 t138.2.2.1)), .c (.sc (.bool t138.2.2.2))] 93], 0⟩
def halterref02_Mul.l6_Q (t1 : Bool) (t2 : Bool) (t137 : Bool × Int × Int × Bool) (t138 : Bool × Int × Int × Bool) (t : Int × Int) : Exit → St → Prop := fun e s => e = (.exit 0) ∧ s = ⟨[.any, .any, .any, .any, .any, .v (.one (.sc (.bool (!(t1 == t2))))), .v (.one (.ptr 0 ⟨0, 0, 0, 0⟩)), .v (.one (.ptr 1 ⟨0, 0, 0, 0⟩)), .any, .any, .any, .any, .any, .any, .any, .any, .any, .any, .any, .any, .any, .any, .any, .any, .any, .any, .any, .any, .any, .any, .any, .any, .any, .any, .any, .any, .any, .any, .any, .any, .any, .any, .any, .any, .any, .any, .any, .any, .any, .any, .any, .any, .any, .any, .any, .any, .any, .any, .any, .any, .any, .any, .any, .any, .any, .any, .any, .any, .any, .any, .any, .any, .any, .any, .any, .any, .any, .any, .any, .any, .any, .any, .any, .any, .any, .any, .any, .any, .any, .any, .any, .any, .any, .any, .any, .any, .any, .any, .any, .any, .any, .any, .any, .any, .any, .any, .any, .any, .any], [.ex false [.c (.sc (.bool t137.1)), .c (.sc (.int .u64 t.1)), .c (.sc (.int .i64 t.2)), .c (.sc (.bool t137.2.2.2))] 93, .ex false [.c (.sc (.bool t138.1)), .c (.sc (.int .u64 t138.2.1)), .c (.sc (.int .i64 t138.2.2.1)), .c (.sc (.bool t138.2.2.2))] 93], 0⟩
theorem halterref02_Mul.l6_ok (t1 : Bool) (t2 : Bool) (t137 : Bool × Int × Int × Bool) (t138 : Bool × Int × Int × Bool) : ∀ (n : Nat) (x144 : Int) (x145 : Int) (r : Int × Int), halterref02_Mul.l6 t1 t2 t137 t138 n x144 x145 = some r → TripN cfg (cpath (Tryd.f38.body.getD .skip) [1, 1, 1, 1, 1, 1, 0, 0, 0]) n (halterref02_Mul.l6_S t1 t2 t137 t138 x144 x145) (halterref02_Mul.l6_Q t1 t2 t137 t138 r) := by
  intro n
  induction n with
  | zero => intro x144 x145 r h; cases h
  | succ n ih =>
    intro x144 x145 r h
    rw [halterref02_Mul.l6] at h
    refine TripN.of_run cfg_ok (k := (.br (aE 3 (.adj [.keep [5, 6, 7], .drop 2] .nil)) (.adj [.keep [5, 6, 7], .drop 2] .nil))) (to_goal (q := (True) ∧ (True) ∧ (((decide (x144 < (4503599627370496 : Int))) = true → (True ∧ (True ∧ (True ∧ (True) ∧ (True) ∧ (True) ∧ (True) ∧ (True) ∧ (True) ∧ (((True) ∧ (True) ∧ True) ∧ TripN cfg (cpath (Tryd.f38.body.getD .skip) [1, 1, 1, 1, 1, 1, 0, 0, 0]) n (halterref02_Mul.l6_S t1 t2 t137 t138 (IntKind.wrap .u64 ((2 : Int) * x144)) (IntKind.wrap .i64 (x145 - (1 : Int)))) (halterref02_Mul.l6_Q t1 t2 t137 t138 r)))))) ∧ ((decide (x144 < (4503599627370496 : Int))) = false → (((True) ∧ (True) ∧ True) ∧ halterref02_Mul.l6_Q t1 t2 t137 t138 r (.exit 0) ⟨[.any, .any, .any, .any, .any, .v (.one (.sc (.bool (!(t1 == t2))))), .v (.one (.ptr 0 ⟨0, 0, 0, 0⟩)), .v (.one (.ptr 1 ⟨0, 0, 0, 0⟩)), .any, .any, .any, .any, .any, .any, .any, .any, .any, .any, .any, .any, .any, .any, .any, .any, .any, .any, .any, .any, .any, .any, .any, .any, .any, .any, .any, .any, .any, .any, .any, .any, .any, .any, .any, .any, .any, .any, .any, .any, .any, .any, .any, .any, .any, .any, .any, .any, .any, .any, .any, .any, .any, .any, .any, .any, .any, .any, .any, .any, .any, .any, .any, .any, .any, .any, .any, .any, .any, .any, .any, .any, .any, .any, .any, .any, .any, .any, .any, .any, .any, .any, .any, .any, .any, .any, .any, .any, .any, .any, .any, .any, .any, .any, .any, .any, .any, .any, .any, .any, .any], [.ex false [.c (.sc (.bool t137.1)), .c (.sc (.int .u64 x144)), .c (.sc (.int .i64 x145)), .c (.sc (.bool (z3 t137)))] 93, .ex false [.c (.sc (.bool t138.1)), .c (.sc (.int .u64 t138.2.1)), .c (.sc (.int .i64 (p2 t138))), .c (.sc (.bool (z3 t138)))] 93], 0⟩)))) (by kernel_rfl) ?_)
    refine ⟨trivial, trivial, ?_⟩
    refine ⟨fun b150 => ?_, fun b150 => ?_⟩
    · rw [if_pos (of_decide_eq_true b150)] at h
      refine ⟨trivial, trivial, trivial, trivial, trivial, trivial, trivial, trivial, trivial, ?_⟩
      exact ⟨⟨trivial, trivial, trivial⟩, ih (IntKind.wrap .u64 ((2 : Int) * x144)) (IntKind.wrap .i64 (x145 - (1 : Int))) r h⟩
    · rw [if_neg (of_decide_eq_false b150)] at h
      obtain rfl := Option.some.inj h
      exact ⟨⟨trivial, trivial, trivial⟩, rfl, rfl⟩
def halterref02_Mul.l7 (t1 : Bool) (t2 : Bool) (t137 : Bool × Int × Int × Bool) (t138 : Bool × Int × Int × Bool) (t149 : Int × Int) : Nat → Int → Int → Option (Int × Int)
  | 0, _, _ => none
  | n + 1, x156, x157 =>
    if x156 < (4503599627370496 : Int) then
      halterref02_Mul.l7 t1 t2 t137 t138 t149 n (IntKind.wrap .u64 ((2 : Int) * x156)) (IntKind.wrap .i64 (x157 - (1 : Int)))
    else
      some (x156, x157)
def halterref02_Mul.l7_S (t1 : Bool) (t2 : Bool) (t137 : Bool × Int × Int × Bool) (t138 : Bool × Int × Int × Bool) (t149 : Int × Int) (x156 : Int) (x157 : Int) : St := ⟨[.any, .any, .any, .any, .any, .v (.one (.sc (.bool (!(t1 == t2))))), .v (.one (.ptr 0 ⟨0, 0, 0, 0⟩)), .v (.one (.ptr 1 ⟨0, 0, 0, 0⟩)), .any, .any, .any, .any, .any, .any, .any, .any, .any, .any, .any, .any, .any, .any, .any, .any, .any, .any, .any, .any, .any, .any, .any, .any, .any, .any, .any, .any, .any, .any, .any, .any, .any, .any, .any, .any, .any, .any, .any, .any, .any, .any, .any, .any, .any, .any, .any, .any, .any, .any, .any, .any, .any, .any, .any, .any, .any, .any, .any, .any, .any, .any, .any, .any, .any, .any, .any, .any, .any, .any, .any, .any, .any, .any, .any, .any, .any, .any, .any, .any, .any, .any, .any, .any, .any, .any, .any, .any, .any, .any, .any, .any, .any, .any, .any, .any, .any, .any, .any, .any, .any], [.ex false [.c (.sc (.bool t137.1)), .c (.sc (.int .u64 t149.1)), .c (.sc (.int .i64 t149.2)), .c (.sc (.bool t137.2.2.2))] 93, .ex false [.c (.sc (.bool t138.1)), .c (.sc (.int .u64 x156)), .c (.sc (.int .i64 x157)), .c (.sc (.bool t138.2.2.2))] 93], 0⟩
def halterref02_Mul.l7_Q (t1 : Bool) (t2 : Bool) (t137 : Bool × Int × Int × Bool) (t138 : Bool × Int × Int × Bool) (t149 : Int × Int) (t : Int × Int) : Exit → St → Prop := fun e s => e = (.exit 2) ∧ s = ⟨[.any, .any, .any, .any, .any, .v (.one (.sc (.bool (!(t1 == t2))))), .v (.one (.ptr 0 ⟨0, 0, 0, 0⟩)), .v (.one (.ptr 1 ⟨0, 0, 0, 0⟩)), .any, .any, .any, .any, .any, .any, .any, .any, .any, .any, .any, .any, .any, .any, .any, .any, .any, .any, .any, .any, .any, .any, .any, .any, .any, .any, .any, .any, .any, .any, .any, .any, .any, .any, .any, .any, .any, .any, .any, .any, .any, .any, .any, .any, .any, .any, .any, .any, .any, .any, .any, .any, .any, .any, .any, .any, .any, .any, .any, .any, .any, .any, .any, .any, .any, .any, .any, .any, .any, .any, .any, .any, .any, .any, .any, .any, .any, .any, .any, .any, .any, .any, .any, .any, .any, .any, .any, .any, .any, .any, .any, .any, .any, .any, .any, .any, .any, .any, .any, .any, .any], [.ex false [.c (.sc (.bool t137.1)), .c (.sc (.int .u64 t149.1)), .c (.sc (.int .i64 t149.2)), .c (.sc (.bool t137.2.2.2))] 93, .ex false [.c (.sc (.bool t138.1)), .c (.sc (.int .u64 t.1)), .c (.sc (.int .i64 t.2)), .c (.sc (.bool t138.2.2.2))] 93], 0⟩
theorem halterref02_Mul.l7_ok (t1 : Bool) (t2 : Bool) (t137 : Bool × Int × Int × Bool) (t138 : Bool × Int × Int × Bool) (t149 : Int × Int) : ∀ (n : Nat) (x156 : Int) (x157 : Int) (r : Int × Int), halterref02_Mul.l7 t1 t2 t137 t138 t149 n x156 x157 = some r → TripN cfg (cpath (Tryd.f38.body.getD .skip) [1, 1, 1, 1, 1, 1, 1, 0, 0, 0]) n (halterref02_Mul.l7_S t1 t2 t137 t138 t149 x156 x157) (halterref02_Mul.l7_Q t1 t2 t137 t138 t149 r) := by
  intro n
  induction n with
  | zero => intro x156 x157 r h; cases h
  | succ n ih =>
    intro x156 x157 r h
    rw [halterref02_Mul.l7] at h
    refine TripN.of_run cfg_ok (k := (.br (aE 3 (.adj [.keep [5, 6, 7], .drop 2] .nil)) (.adj [.keep [5, 6, 7], .drop 2] .nil))) (to_goal (q := (True) ∧ (True) ∧ (((decide (x156 < (4503599627370496 : Int))) = true → (True ∧ (True ∧ (True ∧ (True) ∧ (True) ∧ (True) ∧ (True) ∧ (True) ∧ (True) ∧ (((True) ∧ (True) ∧ True) ∧ TripN cfg (cpath (Tryd.f38.body.getD .skip) [1, 1, 1, 1, 1, 1, 1, 0, 0, 0]) n (halterref02_Mul.l7_S t1 t2 t137 t138 t149 (IntKind.wrap .u64 ((2 : Int) * x156)) (IntKind.wrap .i64 (x157 - (1 : Int)))) (halterref02_Mul.l7_Q t1 t2 t137 t138 t149 r)))))) ∧ ((decide (x156 < (4503599627370496 : Int))) = false → (((True) ∧ (True) ∧ True) ∧ halterref02_Mul.l7_Q t1 t2 t137 t138 t149 r (.exit 2) ⟨[.any, .any, .any, .any, .any, .v (.one (.sc (.bool (!(t1 == t2))))), .v (.one (.ptr 0 ⟨0, 0, 0, 0⟩)), .v (.one (.ptr 1 ⟨0, 0, 0, 0⟩)), .any, .any, .any, .any, .any, .any, .any, .any, .any, .any, .any, .any, .any, .any, .any, .any, .any, .any, .any, .any, .any, .any, .any, .any, .any, .any, .any, .any, .any, .any, .any, .any, .any, .any, .any, .any, .any, .any, .any, .any, .any, .any, .any, .any, .any, .any, .any, .any, .any, .any, .any, .any, .any, .any, .any, .any, .any, .any, .any, .any, .any, .any, .any, .any, .any, .any, .any, .any, .any, .any, .any, .any, .any, .any, .any, .any, .any, .any, .any, .any, .any, .any, .any, .any, .any, .any, .any, .any, .any, .any, .any, .any, .any, .any, .any, .any, .any, .any, .any, .any, .any], [.ex false [.c (.sc (.bool t137.1)), .c (.sc (.int .u64 t149.1)), .c (.sc (.int .i64 t149.2)), .c (.sc (.bool (z3 t137)))] 93, .ex false [.c (.sc (.bool t138.1)), .c (.sc (.int .u64 x156)), .c (.sc (.int .i64 x157)), .c (.sc (.bool (z3 t138)))] 93], 0⟩)))) (by kernel_rfl) ?_)
    refine ⟨trivial, trivial, ?_⟩
    refine ⟨fun b162 => ?_, fun b162 => ?_⟩
    · rw [if_pos (of_decide_eq_true b162)] at h
      refine ⟨trivial, trivial, trivial, trivial, trivial, trivial, trivial, trivial, trivial, ?_⟩
      exact ⟨⟨trivial, trivial, trivial⟩, ih (IntKind.wrap .u64 ((2 : Int) * x156)) (IntKind.wrap .i64 (x157 - (1 : Int))) r h⟩
    · rw [if_neg (of_decide_eq_false b162)] at h
      obtain rfl := Option.some.inj h
      exact ⟨⟨trivial, trivial, trivial⟩, rfl, rfl⟩
def halterref02_Mul.f (a0 : Int) (a1 : Int) : Option Int :=
  (halterref02_Neg.f a0).bind fun t1 =>
  (halterref02_Neg.f a1).bind fun t2 =>
  (halterref02_none.f a0 a1).bind fun t3 =>
  if t3 = true then
    some (9221120237041090560 : Int)
  else
    (halterref02_Class.f a0).bind fun t5 =>
    if t5 = (3 : Int) then
      (halterref02_Class.f a1).bind fun t7 =>
      if t7 = (0 : Int) then
        some (9221120237041090560 : Int)
      else
        (halterref02_Class.f a0).bind fun t9 =>
        if t9 = (0 : Int) then
          (halterref02_Class.f a1).bind fun t11 =>
          if t11 = (3 : Int) then
            some (9221120237041090560 : Int)
          else
            (halterref02_Class.f a0).bind fun t13 =>
            if t13 = (3 : Int) then
              (halterref02_signed.f (!(t1 == t2)) (9218868437227405312 : Int)).bind fun t15 =>
              some t15
            else
              (halterref02_Class.f a1).bind fun t16 =>
              if t16 = (3 : Int) then
                (halterref02_signed.f (!(t1 == t2)) (9218868437227405312 : Int)).bind fun t18 =>
                some t18
              else
                (halterref02_Open.f a0).bind fun t19 =>
                (halterref02_Open.f a1).bind fun t20 =>
                if t19.2.1 = (0 : Int) then
                  (halterref02_signed.f (!(t1 == t2)) (0 : Int)).bind fun t22 =>
                  some t22
                else
                  if t20.2.1 = (0 : Int) then
                    (halterref02_signed.f (!(t1 == t2)) (0 : Int)).bind fun t24 =>
                    some t24
                  else
                    (halterref02_Mul.l0 t1 t2 t19 t20 FUEL t19.2.1 t19.2.2.1).bind fun t31 =>
                    (halterref02_Mul.l1 t1 t2 t19 t20 t31 FUEL t20.2.1 t20.2.2.1).bind fun t43 =>
                    (halterref02_Product.f t31.1 t43.1).bind fun t49 =>
                    (halterref02_Round.f (!(t1 == t2)) (IntKind.wrap .u64 ((IntKind.wrap .u64 ((256 : Int) * t49.1)) + (IntKind.wrap .u64 (Int.tdiv t49.2 (70368744177664 : Int))))) (IntKind.wrap .i64 ((IntKind.wrap .i64 (t31.2 + t43.2)) + (46 : Int))) (decide ((Int.tmod t49.2 (70368744177664 : Int)) > (0 : Int)))).bind fun t50 =>
                    some t50
        else
          (halterref02_Class.f a0).bind fun t51 =>
          if t51 = (3 : Int) then
            (halterref02_signed.f (!(t1 == t2)) (9218868437227405312 : Int)).bind fun t53 =>
            some t53
          else
            (halterref02_Class.f a1).bind fun t54 =>
            if t54 = (3 : Int) then
              (halterref02_signed.f (!(t1 == t2)) (9218868437227405312 : Int)).bind fun t56 =>
              some t56
            else
              (halterref02_Open.f a0).bind fun t57 =>
              (halterref02_Open.f a1).bind fun t58 =>
              if t57.2.1 = (0 : Int) then
                (halterref02_signed.f (!(t1 == t2)) (0 : Int)).bind fun t60 =>
                some t60
              else
                if t58.2.1 = (0 : Int) then
                  (halterref02_signed.f (!(t1 == t2)) (0 : Int)).bind fun t62 =>
                  some t62
                else
                  (halterref02_Mul.l2 t1 t2 t57 t58 FUEL t57.2.1 t57.2.2.1).bind fun t69 =>
                  (halterref02_Mul.l3 t1 t2 t57 t58 t69 FUEL t58.2.1 t58.2.2.1).bind fun t81 =>
                  (halterref02_Product.f t69.1 t81.1).bind fun t87 =>
                  (halterref02_Round.f (!(t1 == t2)) (IntKind.wrap .u64 ((IntKind.wrap .u64 ((256 : Int) * t87.1)) + (IntKind.wrap .u64 (Int.tdiv t87.2 (70368744177664 : Int))))) (IntKind.wrap .i64 ((IntKind.wrap .i64 (t69.2 + t81.2)) + (46 : Int))) (decide ((Int.tmod t87.2 (70368744177664 : Int)) > (0 : Int)))).bind fun t88 =>
                  some t88
    else
      (halterref02_Class.f a0).bind fun t89 =>
      if t89 = (0 : Int) then
        (halterref02_Class.f a1).bind fun t91 =>
        if t91 = (3 : Int) then
          some (9221120237041090560 : Int)
        else
          (halterref02_Class.f a0).bind fun t93 =>
          if t93 = (3 : Int) then
            (halterref02_signed.f (!(t1 == t2)) (9218868437227405312 : Int)).bind fun t95 =>
            some t95
          else
            (halterref02_Class.f a1).bind fun t96 =>
            if t96 = (3 : Int) then
              (halterref02_signed.f (!(t1 == t2)) (9218868437227405312 : Int)).bind fun t98 =>
              some t98
            else
              (halterref02_Open.f a0).bind fun t99 =>
              (halterref02_Open.f a1).bind fun t100 =>
              if t99.2.1 = (0 : Int) then
                (halterref02_signed.f (!(t1 == t2)) (0 : Int)).bind fun t102 =>
                some t102
              else
                if t100.2.1 = (0 : Int) then
                  (halterref02_signed.f (!(t1 == t2)) (0 : Int)).bind fun t104 =>
                  some t104
                else
                  (halterref02_Mul.l4 t1 t2 t99 t100 FUEL t99.2.1 t99.2.2.1).bind fun t111 =>
                  (halterref02_Mul.l5 t1 t2 t99 t100 t111 FUEL t100.2.1 t100.2.2.1).bind fun t123 =>
                  (halterref02_Product.f t111.1 t123.1).bind fun t129 =>
                  (halterref02_Round.f (!(t1 == t2)) (IntKind.wrap .u64 ((IntKind.wrap .u64 ((256 : Int) * t129.1)) + (IntKind.wrap .u64 (Int.tdiv t129.2 (70368744177664 : Int))))) (IntKind.wrap .i64 ((IntKind.wrap .i64 (t111.2 + t123.2)) + (46 : Int))) (decide ((Int.tmod t129.2 (70368744177664 : Int)) > (0 : Int)))).bind fun t130 =>
                  some t130
      else
        (halterref02_Class.f a0).bind fun t131 =>
        if t131 = (3 : Int) then
          (halterref02_signed.f (!(t1 == t2)) (9218868437227405312 : Int)).bind fun t133 =>
          some t133
        else
          (halterref02_Class.f a1).bind fun t134 =>
          if t134 = (3 : Int) then
            (halterref02_signed.f (!(t1 == t2)) (9218868437227405312 : Int)).bind fun t136 =>
            some t136
          else
            (halterref02_Open.f a0).bind fun t137 =>
            (halterref02_Open.f a1).bind fun t138 =>
            if t137.2.1 = (0 : Int) then
              (halterref02_signed.f (!(t1 == t2)) (0 : Int)).bind fun t140 =>
              some t140
            else
              if t138.2.1 = (0 : Int) then
                (halterref02_signed.f (!(t1 == t2)) (0 : Int)).bind fun t142 =>
                some t142
              else
                (halterref02_Mul.l6 t1 t2 t137 t138 FUEL t137.2.1 t137.2.2.1).bind fun t149 =>
                (halterref02_Mul.l7 t1 t2 t137 t138 t149 FUEL t138.2.1 t138.2.2.1).bind fun t161 =>
                (halterref02_Product.f t149.1 t161.1).bind fun t167 =>
                (halterref02_Round.f (!(t1 == t2)) (IntKind.wrap .u64 ((IntKind.wrap .u64 ((256 : Int) * t167.1)) + (IntKind.wrap .u64 (Int.tdiv t167.2 (70368744177664 : Int))))) (IntKind.wrap .i64 ((IntKind.wrap .i64 (t149.2 + t161.2)) + (46 : Int))) (decide ((Int.tmod t167.2 (70368744177664 : Int)) > (0 : Int)))).bind fun t168 =>
                some t168
def halterref02_Mul.R (r : Int) : Tm := .v (.one (.sc (.int .u64 r)))
theorem halterref02_Mul.fun_ {a0 : Int} {a1 : Int} {r : Int} (h : halterref02_Mul.f a0 a1 = some r) : Fun cfg 38 [.one (.sc (.int .u64 a0)), .one (.sc (.int .u64 a1))] [] (halterref02_Mul.R r) [] := by
  unfold halterref02_Mul.f at h
  refine fun_of_run cfg_ok (f := 38) (fn := Tryd.f38) Tryd.func38 rfl (by kernel_rfl) (rs := [.tmp 4]) rfl (nt := 109) rfl (l := fin) (k := (.call true [] (Bool) halterref02_Neg.R (fun t1 => (.call true [] (Bool) halterref02_Neg.R (fun t2 => (.call true [] (Bool) halterref02_none.R (fun t3 => (.br (oT 12 (aE 3 .nil)) (.one false (.call true [] (Int) halterref02_Class.R (fun t5 => (oF 2 (.br (.one true (.call true [] (Int) halterref02_Class.R (fun t7 => (.one true (.one false (.one true (.one false (.br (oT 6 (aE 3 .nil)) (.one false (.call true [] (Int) halterref02_Class.R (fun t9 => (oF 2 (.br (.one true (.call true [] (Int) halterref02_Class.R (fun t11 => (.one true (.one false (.one true (.one false (.br (aE 3 .nil) (.call true [] (Int) halterref02_Class.R (fun t13 => (.br (oT 4 (.call true [] (Int) halterref02_signed.R (fun t15 => (aE 2 .nil)))) (.one false (.call true [] (Int) halterref02_Class.R (fun t16 => (oF 2 (.br (.call true [] (Int) halterref02_signed.R (fun t18 => (aE 2 .nil))) (.call true [] (Bool × Int × Int × Bool) halterref02_Open.R (fun t19 => (.call true [] (Bool × Int × Int × Bool) halterref02_Open.R (fun t20 => (.br (oT 4 (.call true [] (Int) halterref02_signed.R (fun t22 => (.adj [] (.adj [.drop 0] .nil))))) (oF 3 (.br (.call true [] (Int) halterref02_signed.R (fun t24 => (.adj [] (.adj [.drop 0] .nil)))) (aE 2 (.adj [.keep [5, 6, 7]] (.sub (Int × Int) (fun _ => (.exit 0)) (fun t31 => ⟨[.any, .any, .any, .any, .any, .v (.one (.sc (.bool (!(t1 == t2))))), .v (.one (.ptr 0 ⟨0, 0, 0, 0⟩)), .v (.one (.ptr 1 ⟨0, 0, 0, 0⟩)), .any, .any, .any, .any, .any, .any, .any, .any, .any, .any, .any, .any, .any, .any, .any, .any, .any, .any, .any, .any, .any, .any, .any, .any, .any, .any, .any, .any, .any, .any, .any, .any, .any, .any, .any, .any, .any, .any, .any, .any, .any, .any, .any, .any, .any, .any, .any, .any, .any, .any, .any, .any, .any, .any, .any, .any, .any, .any, .any, .any, .any, .any, .any, .any, .any, .any, .any, .any, .any, .any, .any, .any, .any, .any, .any, .any, .any, .any, .any, .any, .any, .any, .any, .any, .any, .any, .any, .any, .any, .any, .any, .any, .any, .any, .any, .any, .any, .any, .any, .any, .any], [.ex false [.c (.sc (.bool t19.1)), .c (.sc (.int .u64 t31.1)), .c (.sc (.int .i64 t31.2)), .c (.sc (.bool (z3 t19)))] 93, .ex false [.c (.sc (.bool t20.1)), .c (.sc (.int .u64 t20.2.1)), .c (.sc (.int .i64 (p2 t20))), .c (.sc (.bool (z3 t20)))] 93], 0⟩) (fun t31 => (.adj [] (.adj [.keep [5, 6, 7]] (.sub (Int × Int) (fun _ => (.exit 2)) (fun t43 => ⟨[.any, .any, .any, .any, .any, .v (.one (.sc (.bool (!(t1 == t2))))), .v (.one (.ptr 0 ⟨0, 0, 0, 0⟩)), .v (.one (.ptr 1 ⟨0, 0, 0, 0⟩)), .any, .any, .any, .any, .any, .any, .any, .any, .any, .any, .any, .any, .any, .any, .any, .any, .any, .any, .any, .any, .any, .any, .any, .any, .any, .any, .any, .any, .any, .any, .any, .any, .any, .any, .any, .any, .any, .any, .any, .any, .any, .any, .any, .any, .any, .any, .any, .any, .any, .any, .any, .any, .any, .any, .any, .any, .any, .any, .any, .any, .any, .any, .any, .any, .any, .any, .any, .any, .any, .any, .any, .any, .any, .any, .any, .any, .any, .any, .any, .any, .any, .any, .any, .any, .any, .any, .any, .any, .any, .any, .any, .any, .any, .any, .any, .any, .any, .any, .any, .any, .any], [.ex false [.c (.sc (.bool t19.1)), .c (.sc (.int .u64 t31.1)), .c (.sc (.int .i64 t31.2)), .c (.sc (.bool (z3 t19)))] 93, .ex false [.c (.sc (.bool t20.1)), .c (.sc (.int .u64 t43.1)), .c (.sc (.int .i64 t43.2)), .c (.sc (.bool (z3 t20)))] 93], 0⟩) (fun t43 => (.call true [] (Int × Int) halterref02_Product.R (fun t49 => (.call true [] (Int) halterref02_Round.R (fun t50 => (.adj [] (.adj [.drop 0] .nil))))))))))))))))))))))))))))))))))))) (oF 6 (.call true [] (Int) halterref02_Class.R (fun t51 => (.br (oT 4 (.call true [] (Int) halterref02_signed.R (fun t53 => (aE 2 .nil)))) (.one false (.call true [] (Int) halterref02_Class.R (fun t54 => (oF 2 (.br (.call true [] (Int) halterref02_signed.R (fun t56 => (aE 2 .nil))) (.call true [] (Bool × Int × Int × Bool) halterref02_Open.R (fun t57 => (.call true [] (Bool × Int × Int × Bool) halterref02_Open.R (fun t58 => (.br (oT 4 (.call true [] (Int) halterref02_signed.R (fun t60 => (.adj [] (.adj [.drop 0] .nil))))) (oF 3 (.br (.call true [] (Int) halterref02_signed.R (fun t62 => (.adj [] (.adj [.drop 0] .nil)))) (aE 2 (.adj [.keep [5, 6, 7]] (.sub (Int × Int) (fun _ => (.exit 0)) (fun t69 => ⟨[.any, .any, .any, .any, .any, .v (.one (.sc (.bool (!(t1 == t2))))), .v (.one (.ptr 0 ⟨0, 0, 0, 0⟩)), .v (.one (.ptr 1 ⟨0, 0, 0, 0⟩)), .any, .any, .any, .any, .any, .any, .any, .any, .any, .any, .any, .any, .any, .any, .any, .any, .any, .any, .any, .any, .any, .any, .any, .any, .any, .any, .any, .any, .any, .any, .any, .any, .any, .any, .any, .any, .any, .any, .any, .any, .any, .any, .any, .any, .any, .any, .any, .any, .any, .any, .any, .any, .any, .any, .any, .any, .any, .any, .any, .any, .any, .any, .any, .any, .any, .any, .any, .any, .any, .any, .any, .any, .any, .any, .any, .any, .any, .any, .any, .any, .any, .any, .any, .any, .any, .any, .any, .any, .any, .any, .any, .any, .any, .any, .any, .any, .any, .any, .any, .any, .any], [.ex false [.c (.sc (.bool t57.1)), .c (.sc (.int .u64 t69.1)), .c (.sc (.int .i64 t69.2)), .c (.sc (.bool (z3 t57)))] 93, .ex false [.c (.sc (.bool t58.1)), .c (.sc (.int .u64 t58.2.1)), .c (.sc (.int .i64 (p2 t58))), .c (.sc (.bool (z3 t58)))] 93], 0⟩) (fun t69 => (.adj [] (.adj [.keep [5, 6, 7]] (.sub (Int × Int) (fun _ => (.exit 2)) (fun t81 => ⟨[.any, .any, .any, .any, .any, .v (.one (.sc (.bool (!(t1 == t2))))), .v (.one (.ptr 0 ⟨0, 0, 0, 0⟩)), .v (.one (.ptr 1 ⟨0, 0, 0, 0⟩)), .any, .any, .any, .any, .any, .any, .any, .any, .any, .any, .any, .any, .any, .any, .any, .any, .any, .any, .any, .any, .any, .any, .any, .any, .any, .any, .any, .any, .any, .any, .any, .any, .any, .any, .any, .any, .any, .any, .any, .any, .any, .any, .any, .any, .any, .any, .any, .any, .any, .any, .any, .any, .any, .any, .any, .any, .any, .any, .any, .any, .any, .any, .any, .any, .any, .any, .any, .any, .any, .any, .any, .any, .any, .any, .any, .any, .any, .any, .any, .any, .any, .any, .any, .any, .any, .any, .any, .any, .any, .any, .any, .any, .any, .any, .any, .any, .any, .any, .any, .any, .any], [.ex false [.c (.sc (.bool t57.1)), .c (.sc (.int .u64 t69.1)), .c (.sc (.int .i64 t69.2)), .c (.sc (.bool (z3 t57)))] 93, .ex false [.c (.sc (.bool t58.1)), .c (.sc (.int .u64 t81.1)), .c (.sc (.int .i64 t81.2)), .c (.sc (.bool (z3 t58)))] 93], 0⟩) (fun t81 => (.call true [] (Int × Int) halterref02_Product.R (fun t87 => (.call true [] (Int) halterref02_Round.R (fun t88 => (.adj [] (.adj [.drop 0] .nil))))))))))))))))))))))))))))))))))))))))))) (oF 7 (.call true [] (Int) halterref02_Class.R (fun t89 => (oF 2 (.br (.one true (.call true [] (Int) halterref02_Class.R (fun t91 => (.one true (.one false (.one true (.one false (.br (aE 3 .nil) (.call true [] (Int) halterref02_Class.R (fun t93 => (.br (oT 4 (.call true [] (Int) halterref02_signed.R (fun t95 => (aE 2 .nil)))) (.one false (.call true [] (Int) halterref02_Class.R (fun t96 => (oF 2 (.br (.call true [] (Int) halterref02_signed.R (fun t98 => (aE 2 .nil))) (.call true [] (Bool × Int × Int × Bool) halterref02_Open.R (fun t99 => (.call true [] (Bool × Int × Int × Bool) halterref02_Open.R (fun t100 => (.br (oT 4 (.call true [] (Int) halterref02_signed.R (fun t102 => (.adj [] (.adj [.drop 0] .nil))))) (oF 3 (.br (.call true [] (Int) halterref02_signed.R (fun t104 => (.adj [] (.adj [.drop 0] .nil)))) (aE 2 (.adj [.keep [5, 6, 7]] (.sub (Int × Int) (fun _ => (.exit 0)) (fun t111 => ⟨[.any, .any, .any, .any, .any, .v (.one (.sc (.bool (!(t1 == t2))))), .v (.one (.ptr 0 ⟨0, 0, 0, 0⟩)), .v (.one (.ptr 1 ⟨0, 0, 0, 0⟩)), .any, .any, .any, .any, .any, .any, .any, .any, .any, .any, .any, .any, .any, .any, .any, .any, .any, .any, .any, .any, .any, .any, .any, .any, .any, .any, .any, .any, .any, .any, .any, .any, .any, .any, .any, .any, .any, .any, .any, .any, .any, .any, .any, .any, .any, .any, .any, .any, .any, .any, .any, .any, .any, .any, .any, .any, .any, .any, .any, .any, .any, .any, .any, .any, .any, .any, .any, .any, .any, .any, .any, .any, .any, .any, .any, .any, .any, .any, .any, .any, .any, .any, .any, .any, .any, .any, .any, .any, .any, .any, .any, .any, .any, .any, .any, .any, .any, .any, .any, .any, .any], [.ex false [.c (.sc (.bool t99.1)), .c (.sc (.int .u64 t111.1)), .c (.sc (.int .i64 t111.2)), .c (.sc (.bool (z3 t99)))] 93, .ex false [.c (.sc (.bool t100.1)), .c (.sc (.int .u64 t100.2.1)), .c (.sc (.int .i64 (p2 t100))), .c (.sc (.bool (z3 t100)))] 93], 0⟩) (fun t111 => (.adj [] (.adj [.keep [5, 6, 7]] (.sub (Int × Int) (fun _ => (.exit 2)) (fun t123 => ⟨[.any, .any, .any, .any, .any, .v (.one (.sc (.bool (!(t1 == t2))))), .v (.one (.ptr 0 ⟨0, 0, 0, 0⟩)), .v (.one (.ptr 1 ⟨0, 0, 0, 0⟩)), .any, .any, .any, .any, .any, .any, .any, .any, .any, .any, .any, .any, .any, .any, .any, .any, .any, .any, .any, .any, .any, .any, .any, .any, .any, .any, .any, .any, .any, .any, .any, .any, .any, .any, .any, .any, .any, .any, .any, .any, .any, .any, .any, .any, .any, .any, .any, .any, .any, .any, .any, .any, .any, .any, .any, .any, .any, .any, .any, .any, .any, .any, .any, .any, .any, .any, .any, .any, .any, .any, .any, .any, .any, .any, .any, .any, .any, .any, .any, .any, .any, .any, .any, .any, .any, .any, .any, .any, .any, .any, .any, .any, .any, .any, .any, .any, .any, .any, .any, .any, .any], [.ex false [.c (.sc (.bool t99.1)), .c (.sc (.int .u64 t111.1)), .c (.sc (.int .i64 t111.2)), .c (.sc (.bool (z3 t99)))] 93, .ex false [.c (.sc (.bool t100.1)), .c (.sc (.int .u64 t123.1)), .c (.sc (.int .i64 t123.2)), .c (.sc (.bool (z3 t100)))] 93], 0⟩) (fun t123 => (.call true [] (Int × Int) halterref02_Product.R (fun t129 => (.call true [] (Int) halterref02_Round.R (fun t130 => (.adj [] (.adj [.drop 0] .nil))))))))))))))))))))))))))))))))))))) (oF 6 (.call true [] (Int) halterref02_Class.R (fun t131 => (.br (oT 4 (.call true [] (Int) halterref02_signed.R (fun t133 => (aE 2 .nil)))) (.one false (.call true [] (Int) halterref02_Class.R (fun t134 => (oF 2 (.br (.call true [] (Int) halterref02_signed.R (fun t136 => (aE 2 .nil))) (.call true [] (Bool × Int × Int × Bool) halterref02_Open.R (fun t137 => (.call true [] (Bool × Int × Int × Bool) halterref02_Open.R (fun t138 => (.br (oT 4 (.call true [] (Int) halterref02_signed.R (fun t140 => (.adj [] (.adj [.drop 0] .nil))))) (oF 3 (.br (.call true [] (Int) halterref02_signed.R (fun t142 => (.adj [] (.adj [.drop 0] .nil)))) (aE 2 (.adj [.keep [5, 6, 7]] (.sub (Int × Int) (fun _ => (.exit 0)) (fun t149 => ⟨[.any, .any, .any, .any, .any, .v (.one (.sc (.bool (!(t1 == t2))))), .v (.one (.ptr 0 ⟨0, 0, 0, 0⟩)), .v (.one (.ptr 1 ⟨0, 0, 0, 0⟩)), .any, .any, .any, .any, .any, .any, .any, .any, .any, .any, .any, .any, .any, .any, .any, .any, .any, .any, .any, .any, .any, .any, .any, .any, .any, .any, .any, .any, .any, .any, .any, .any, .any, .any, .any, .any, .any, .any, .any, .any, .any, .any, .any, .any, .any, .any, .any, .any, .any, .any, .any, .any, .any, .any, .any, .any, .any, .any, .any, .any, .any, .any, .any, .any, .any, .any, .any, .any, .any, .any, .any, .any, .any, .any, .any, .any, .any, .any, .any, .any, .any, .any, .any, .any, .any, .any, .any, .any, .any, .any, .any, .any, .any, .any, .any, .any, .any, .any, .any, .any, .any], [.ex false [.c (.sc (.bool t137.1)), .c (.sc (.int .u64 t149.1)), .c (.sc (.int .i64 t149.2)), .c (.sc (.bool (z3 t137)))] 93, .ex false [.c (.sc (.bool t138.1)), .c (.sc (.int .u64 t138.2.1)), .c (.sc (.int .i64 (p2 t138))), .c (.sc (.bool (z3 t138)))] 93], 0⟩) (fun t149 => (.adj [] (.adj [.keep [5, 6, 7]] (.sub (Int × Int) (fun _ => (.exit 2)) (fun t161 => ⟨[.any, .any, .any, .any, .any, .v (.one (.sc (.bool (!(t1 == t2))))), .v (.one (.ptr 0 ⟨0, 0, 0, 0⟩)), .v (.one (.ptr 1 ⟨0, 0, 0, 0⟩)), .any, .any, .any, .any, .any, .any, .any, .any, .any, .any, .any, .any, .any, .any, .any, .any, .any, .any, .any, .any, .any, .any, .any, .any, .any, .any, .any, .any, .any, .any, .any, .any, .any, .any, .any, .any, .any, .any, .any, .any, .any, .any, .any, .any, .any, .any, .any, .any, .any, .any, .any, .any, .any, .any, .any, .any, .any, .any, .any, .any, .any, .any, .any, .any, .any, .any, .any, .any, .any, .any, .any, .any, .any, .any, .any, .any, .any, .any, .any, .any, .any, .any, .any, .any, .any, .any, .any, .any, .any, .any, .any, .any, .any, .any, .any, .any, .any, .any, .any, .any, .any], [.ex false [.c (.sc (.bool t137.1)), .c (.sc (.int .u64 t149.1)), .c (.sc (.int .i64 t149.2)), .c (.sc (.bool (z3 t137)))] 93, .ex false [.c (.sc (.bool t138.1)), .c (.sc (.int .u64 t161.1)), .c (.sc (.int .i64 t161.2)), .c (.sc (.bool (z3 t138)))] 93], 0⟩) (fun t161 => (.call true [] (Int × Int) halterref02_Product.R (fun t167 => (.call true [] (Int) halterref02_Round.R (fun t168 => (.adj [] (.adj [.drop 0] .nil)))))))))))))))))))))))))))))))))))))))))))))))) (to_goal (q := (∃ t1 : Bool, (Fun cfg 60 [.one (.sc (.int .u64 a0))] [] (halterref02_Neg.R t1) [] ∧ True) ∧ (∃ t2 : Bool, (Fun cfg 60 [.one (.sc (.int .u64 a1))] [] (halterref02_Neg.R t2) [] ∧ True) ∧ (True) ∧ (∃ t3 : Bool, (Fun cfg 59 [.one (.sc (.int .u64 a0)), .one (.sc (.int .u64 a1))] [] (halterref02_none.R t3) [] ∧ True) ∧ ((t3 = false → (t3 = false ∧ (∃ t5 : Int, (Fun cfg 36 [.one (.sc (.int .u64 a0))] [] (halterref02_Class.R t5) [] ∧ True) ∧ (t3 = false ∧ (True) ∧ (t3 = false ∧ (((t5 == (3 : Int)) = true → ((t5 == (3 : Int)) = true ∧ (∃ t7 : Int, (Fun cfg 36 [.one (.sc (.int .u64 a1))] [] (halterref02_Class.R t7) [] ∧ True) ∧ ((t5 == (3 : Int)) = true ∧ (True) ∧ (t3 = false ∧ ((t5 == (3 : Int)) = true ∧ (t3 = false ∧ (((t7 == (0 : Int)) = false → ((t7 == (0 : Int)) = false ∧ (∃ t9 : Int, (Fun cfg 36 [.one (.sc (.int .u64 a0))] [] (halterref02_Class.R t9) [] ∧ True) ∧ ((t7 == (0 : Int)) = false ∧ (True) ∧ ((t7 == (0 : Int)) = false ∧ (((t9 == (0 : Int)) = true → ((t9 == (0 : Int)) = true ∧ (∃ t11 : Int, (Fun cfg 36 [.one (.sc (.int .u64 a1))] [] (halterref02_Class.R t11) [] ∧ True) ∧ ((t9 == (0 : Int)) = true ∧ (True) ∧ ((t7 == (0 : Int)) = false ∧ ((t9 == (0 : Int)) = true ∧ ((t7 == (0 : Int)) = false ∧ (((t11 == (3 : Int)) = true → (True ∧ (True ∧ ((True) ∧ (True) ∧ (.v (.one (.sc (.int .u64 (9221120237041090560 : Int)))) : Tm) = halterref02_Mul.R r ∧ ([] : List Box) = [])))) ∧ ((t11 == (3 : Int)) = false → (∃ t13 : Int, (Fun cfg 36 [.one (.sc (.int .u64 a0))] [] (halterref02_Class.R t13) [] ∧ True) ∧ (True) ∧ (((t13 == (3 : Int)) = false → ((t13 == (3 : Int)) = false ∧ (∃ t16 : Int, (Fun cfg 36 [.one (.sc (.int .u64 a1))] [] (halterref02_Class.R t16) [] ∧ True) ∧ ((t13 == (3 : Int)) = false ∧ (True) ∧ ((t13 == (3 : Int)) = false ∧ (((t16 == (3 : Int)) = true → (∃ t18 : Int, (Fun cfg 62 [.one (.sc (.bool (!(t1 == t2)))), .one (.sc (.int .u64 (9218868437227405312 : Int)))] [] (halterref02_signed.R t18) [] ∧ True) ∧ (True ∧ ((True) ∧ (True) ∧ (.v (.one (.sc (.int .u64 t18))) : Tm) = halterref02_Mul.R r ∧ ([] : List Box) = [])))) ∧ ((t16 == (3 : Int)) = false → (∃ t19 : Bool × Int × Int × Bool, (Fun cfg 61 [.one (.sc (.int .u64 a0))] [] (halterref02_Open.R t19) [] ∧ True) ∧ (∃ t20 : Bool × Int × Int × Bool, (Fun cfg 61 [.one (.sc (.int .u64 a1))] [] (halterref02_Open.R t20) [] ∧ True) ∧ (True) ∧ (True) ∧ (True) ∧ (True) ∧ (((t19.2.1 == (0 : Int)) = false → ((t19.2.1 == (0 : Int)) = false ∧ (True) ∧ ((t19.2.1 == (0 : Int)) = false ∧ (True) ∧ ((t19.2.1 == (0 : Int)) = false ∧ (((t20.2.1 == (0 : Int)) = true → (∃ t24 : Int, (Fun cfg 62 [.one (.sc (.bool (!(t1 == t2)))), .one (.sc (.int .u64 (0 : Int)))] [] (halterref02_signed.R t24) [] ∧ True) ∧ (True ∧ ((True) ∧ ((True) ∧ True) ∧ (.v (.one (.sc (.int .u64 t24))) : Tm) = halterref02_Mul.R r ∧ ([] : List Box) = [])))) ∧ ((t20.2.1 == (0 : Int)) = false → (True ∧ (True ∧ (((True) ∧ True) ∧ (∃ t31 : Int × Int, Trip cfg (.loop (cpath (Tryd.f38.body.getD .skip) [1, 1, 1, 1, 1, 1, 0, 0, 0])) ⟨[.any, .any, .any, .any, .any, .v (.one (.sc (.bool (!(t1 == t2))))), .v (.one (.ptr 0 ⟨0, 0, 0, 0⟩)), .v (.one (.ptr 1 ⟨0, 0, 0, 0⟩)), .any, .any, .any, .any, .any, .any, .any, .any, .any, .any, .any, .any, .any, .any, .any, .any, .any, .any, .any, .any, .any, .any, .any, .any, .any, .any, .any, .any, .any, .any, .any, .any, .any, .any, .any, .any, .any, .any, .any, .any, .any, .any, .any, .any, .any, .any, .any, .any, .any, .any, .any, .any, .any, .any, .any, .any, .any, .any, .any, .any, .any, .any, .any, .any, .any, .any, .any, .any, .any, .any, .any, .any, .any, .any, .any, .any, .any, .any, .any, .any, .any, .any, .any, .any, .any, .any, .any, .any, .any, .any, .any, .any, .any, .any, .any, .any, .any, .any, .any, .any, .any], [.ex false [.c (.sc (.bool t19.1)), .c (.sc (.int .u64 t19.2.1)), .c (.sc (.int .i64 (p2 t19))), .c (.sc (.bool (z3 t19)))] 93, .ex false [.c (.sc (.bool t20.1)), .c (.sc (.int .u64 t20.2.1)), .c (.sc (.int .i64 (p2 t20))), .c (.sc (.bool (z3 t20)))] 93], 0⟩ (fun e s => e = (.exit 0) ∧ s = ⟨[.any, .any, .any, .any, .any, .v (.one (.sc (.bool (!(t1 == t2))))), .v (.one (.ptr 0 ⟨0, 0, 0, 0⟩)), .v (.one (.ptr 1 ⟨0, 0, 0, 0⟩)), .any, .any, .any, .any, .any, .any, .any, .any, .any, .any, .any, .any, .any, .any, .any, .any, .any, .any, .any, .any, .any, .any, .any, .any, .any, .any, .any, .any, .any, .any, .any, .any, .any, .any, .any, .any, .any, .any, .any, .any, .any, .any, .any, .any, .any, .any, .any, .any, .any, .any, .any, .any, .any, .any, .any, .any, .any, .any, .any, .any, .any, .any, .any, .any, .any, .any, .any, .any, .any, .any, .any, .any, .any, .any, .any, .any, .any, .any, .any, .any, .any, .any, .any, .any, .any, .any, .any, .any, .any, .any, .any, .any, .any, .any, .any, .any, .any, .any, .any, .any, .any], [.ex false [.c (.sc (.bool t19.1)), .c (.sc (.int .u64 t31.1)), .c (.sc (.int .i64 t31.2)), .c (.sc (.bool (z3 t19)))] 93, .ex false [.c (.sc (.bool t20.1)), .c (.sc (.int .u64 t20.2.1)), .c (.sc (.int .i64 (p2 t20))), .c (.sc (.bool (z3 t20)))] 93], 0⟩) ∧ (True ∧ (((True) ∧ True) ∧ (∃ t43 : Int × Int, Trip cfg (.loop (cpath (Tryd.f38.body.getD .skip) [1, 1, 1, 1, 1, 1, 1, 0, 0, 0])) ⟨[.any, .any, .any, .any, .any, .v (.one (.sc (.bool (!(t1 == t2))))), .v (.one (.ptr 0 ⟨0, 0, 0, 0⟩)), .v (.one (.ptr 1 ⟨0, 0, 0, 0⟩)), .any, .any, .any, .any, .any, .any, .any, .any, .any, .any, .any, .any, .any, .any, .any, .any, .any, .any, .any, .any, .any, .any, .any, .any, .any, .any, .any, .any, .any, .any, .any, .any, .any, .any, .any, .any, .any, .any, .any, .any, .any, .any, .any, .any, .any, .any, .any, .any, .any, .any, .any, .any, .any, .any, .any, .any, .any, .any, .any, .any, .any, .any, .any, .any, .any, .any, .any, .any, .any, .any, .any, .any, .any, .any, .any, .any, .any, .any, .any, .any, .any, .any, .any, .any, .any, .any, .any, .any, .any, .any, .any, .any, .any, .any, .any, .any, .any, .any, .any, .any, .any], [.ex false [.c (.sc (.bool t19.1)), .c (.sc (.int .u64 t31.1)), .c (.sc (.int .i64 t31.2)), .c (.sc (.bool (z3 t19)))] 93, .ex false [.c (.sc (.bool t20.1)), .c (.sc (.int .u64 t20.2.1)), .c (.sc (.int .i64 (p2 t20))), .c (.sc (.bool (z3 t20)))] 93], 0⟩ (fun e s => e = (.exit 2) ∧ s = ⟨[.any, .any, .any, .any, .any, .v (.one (.sc (.bool (!(t1 == t2))))), .v (.one (.ptr 0 ⟨0, 0, 0, 0⟩)), .v (.one (.ptr 1 ⟨0, 0, 0, 0⟩)), .any, .any, .any, .any, .any, .any, .any, .any, .any, .any, .any, .any, .any, .any, .any, .any, .any, .any, .any, .any, .any, .any, .any, .any, .any, .any, .any, .any, .any, .any, .any, .any, .any, .any, .any, .any, .any, .any, .any, .any, .any, .any, .any, .any, .any, .any, .any, .any, .any, .any, .any, .any, .any, .any, .any, .any, .any, .any, .any, .any, .any, .any, .any, .any, .any, .any, .any, .any, .any, .any, .any, .any, .any, .any, .any, .any, .any, .any, .any, .any, .any, .any, .any, .any, .any, .any, .any, .any, .any, .any, .any, .any, .any, .any, .any, .any, .any, .any, .any, .any, .any], [.ex false [.c (.sc (.bool t19.1)), .c (.sc (.int .u64 t31.1)), .c (.sc (.int .i64 t31.2)), .c (.sc (.bool (z3 t19)))] 93, .ex false [.c (.sc (.bool t20.1)), .c (.sc (.int .u64 t43.1)), .c (.sc (.int .i64 t43.2)), .c (.sc (.bool (z3 t20)))] 93], 0⟩) ∧ (True) ∧ (True) ∧ (∃ t49 : Int × Int, (Fun cfg 64 [.one (.sc (.int .u64 t31.1)), .one (.sc (.int .u64 t43.1))] [] (halterref02_Product.R t49) [] ∧ True) ∧ (True) ∧ ((70368744177664 : Int) ≠ 0) ∧ (True) ∧ (True) ∧ (True) ∧ (True) ∧ (True) ∧ ((70368744177664 : Int) ≠ 0) ∧ (True) ∧ (∃ t50 : Int, (Fun cfg 63 [.agg [.c (.sc (.bool (!(t1 == t2)))), .c (.sc (.int .u64 (IntKind.wrap .u64 ((IntKind.wrap .u64 ((256 : Int) * t49.1)) + (IntKind.wrap .u64 (Int.tdiv t49.2 (70368744177664 : Int))))))), .c (.sc (.int .i64 (IntKind.wrap .i64 ((IntKind.wrap .i64 (t31.2 + t43.2)) + (46 : Int))))), .c (.sc (.bool (decide ((Int.tmod t49.2 (70368744177664 : Int)) > (0 : Int)))))]] [] (halterref02_Round.R t50) [] ∧ True) ∧ (True ∧ ((True) ∧ ((True) ∧ True) ∧ (.v (.one (.sc (.int .u64 t50))) : Tm) = halterref02_Mul.R r ∧ ([] : List Box) = []))))))))))))))))) ∧ ((t19.2.1 == (0 : Int)) = true → ((t19.2.1 == (0 : Int)) = true ∧ ((t19.2.1 == (0 : Int)) = true ∧ ((t19.2.1 == (0 : Int)) = true ∧ (true = true ∧ (∃ t22 : Int, (Fun cfg 62 [.one (.sc (.bool (!(t1 == t2)))), .one (.sc (.int .u64 (0 : Int)))] [] (halterref02_signed.R t22) [] ∧ True) ∧ (True ∧ ((True) ∧ ((True) ∧ True) ∧ (.v (.one (.sc (.int .u64 t22))) : Tm) = halterref02_Mul.R r ∧ ([] : List Box) = [])))))))))))))))))) ∧ ((t13 == (3 : Int)) = true → ((t13 == (3 : Int)) = true ∧ ((t13 == (3 : Int)) = true ∧ ((t13 == (3 : Int)) = true ∧ (true = true ∧ (∃ t15 : Int, (Fun cfg 62 [.one (.sc (.bool (!(t1 == t2)))), .one (.sc (.int .u64 (9218868437227405312 : Int)))] [] (halterref02_signed.R t15) [] ∧ True) ∧ (True ∧ ((True) ∧ (True) ∧ (.v (.one (.sc (.int .u64 t15))) : Tm) = halterref02_Mul.R r ∧ ([] : List Box) = []))))))))))))))))))) ∧ ((t9 == (0 : Int)) = false → ((t9 == (0 : Int)) = false ∧ ((t9 == (0 : Int)) = false ∧ ((t7 == (0 : Int)) = false ∧ ((t9 == (0 : Int)) = false ∧ ((t7 == (0 : Int)) = false ∧ (false = false ∧ (∃ t51 : Int, (Fun cfg 36 [.one (.sc (.int .u64 a0))] [] (halterref02_Class.R t51) [] ∧ True) ∧ (True) ∧ (((t51 == (3 : Int)) = false → ((t51 == (3 : Int)) = false ∧ (∃ t54 : Int, (Fun cfg 36 [.one (.sc (.int .u64 a1))] [] (halterref02_Class.R t54) [] ∧ True) ∧ ((t51 == (3 : Int)) = false ∧ (True) ∧ ((t51 == (3 : Int)) = false ∧ (((t54 == (3 : Int)) = true → (∃ t56 : Int, (Fun cfg 62 [.one (.sc (.bool (!(t1 == t2)))), .one (.sc (.int .u64 (9218868437227405312 : Int)))] [] (halterref02_signed.R t56) [] ∧ True) ∧ (True ∧ ((True) ∧ (True) ∧ (.v (.one (.sc (.int .u64 t56))) : Tm) = halterref02_Mul.R r ∧ ([] : List Box) = [])))) ∧ ((t54 == (3 : Int)) = false → (∃ t57 : Bool × Int × Int × Bool, (Fun cfg 61 [.one (.sc (.int .u64 a0))] [] (halterref02_Open.R t57) [] ∧ True) ∧ (∃ t58 : Bool × Int × Int × Bool, (Fun cfg 61 [.one (.sc (.int .u64 a1))] [] (halterref02_Open.R t58) [] ∧ True) ∧ (True) ∧ (True) ∧ (True) ∧ (True) ∧ (((t57.2.1 == (0 : Int)) = false → ((t57.2.1 == (0 : Int)) = false ∧ (True) ∧ ((t57.2.1 == (0 : Int)) = false ∧ (True) ∧ ((t57.2.1 == (0 : Int)) = false ∧ (((t58.2.1 == (0 : Int)) = true → (∃ t62 : Int, (Fun cfg 62 [.one (.sc (.bool (!(t1 == t2)))), .one (.sc (.int .u64 (0 : Int)))] [] (halterref02_signed.R t62) [] ∧ True) ∧ (True ∧ ((True) ∧ ((True) ∧ True) ∧ (.v (.one (.sc (.int .u64 t62))) : Tm) = halterref02_Mul.R r ∧ ([] : List Box) = [])))) ∧ ((t58.2.1 == (0 : Int)) = false → (True ∧ (True ∧ (((True) ∧ True) ∧ (∃ t69 : Int × Int, Trip cfg (.loop (cpath (Tryd.f38.body.getD .skip) [1, 1, 1, 1, 1, 1, 0, 0, 0])) ⟨[.any, .any, .any, .any, .any, .v (.one (.sc (.bool (!(t1 == t2))))), .v (.one (.ptr 0 ⟨0, 0, 0, 0⟩)), .v (.one (.ptr 1 ⟨0, 0, 0, 0⟩)), .any, .any, .any, .any, .any, .any, .any, .any, .any, .any, .any, .any, .any, .any, .any, .any, .any, .any, .any, .any, .any, .any, .any, .any, .any, .any, .any, .any, .any, .any, .any, .any, .any, .any, .any, .any, .any, .any, .any, .any, .any, .any, .any, .any, .any, .any, .any, .any, .any, .any, .any, .any, .any, .any, .any, .any, .any, .any, .any, .any, .any, .any, .any, .any, .any, .any, .any, .any, .any, .any, .any, .any, .any, .any, .any, .any, .any, .any, .any, .any, .any, .any, .any, .any, .any, .any, .any, .any, .any, .any, .any, .any, .any, .any, .any, .any, .any, .any, .any, .any, .any], [.ex false [.c (.sc (.bool t57.1)), .c (.sc (.int .u64 t57.2.1)), .c (.sc (.int .i64 (p2 t57))), .c (.sc (.bool (z3 t57)))] 93, .ex false [.c (.sc (.bool t58.1)), .c (.sc (.int .u64 t58.2.1)), .c (.sc (.int .i64 (p2 t58))), .c (.sc (.bool (z3 t58)))] 93], 0⟩ (fun e s => e = (.exit 0) ∧ s = ⟨[.any, .any, .any, .any, .any, .v (.one (.sc (.bool (!(t1 == t2))))), .v (.one (.ptr 0 ⟨0, 0, 0, 0⟩)), .v (.one (.ptr 1 ⟨0, 0, 0, 0⟩)), .any, .any, .any, .any, .any, .any, .any, .any, .any, .any, .any, .any, .any, .any, .any, .any, .any, .any, .any, .any, .any, .any, .any, .any, .any, .any, .any, .any, .any, .any, .any, .any, .any, .any, .any, .any, .any, .any, .any, .any, .any, .any, .any, .any, .any, .any, .any, .any, .any, .any, .any, .any, .any, .any, .any, .any, .any, .any, .any, .any, .any, .any, .any, .any, .any, .any, .any, .any, .any, .any, .any, .any, .any, .any, .any, .any, .any, .any, .any, .any, .any, .any, .any, .any, .any, .any, .any, .any, .any, .any, .any, .any, .any, .any, .any, .any, .any, .any, .any, .any, .any], [.ex false [.c (.sc (.bool t57.1)), .c (.sc (.int .u64 t69.1)), .c (.sc (.int .i64 t69.2)), .c (.sc (.bool (z3 t57)))] 93, .ex false [.c (.sc (.bool t58.1)), .c (.sc (.int .u64 t58.2.1)), .c (.sc (.int .i64 (p2 t58))), .c (.sc (.bool (z3 t58)))] 93], 0⟩) ∧ (True ∧ (((True) ∧ True) ∧ (∃ t81 : Int × Int, Trip cfg (.loop (cpath (Tryd.f38.body.getD .skip) [1, 1, 1, 1, 1, 1, 1, 0, 0, 0])) ⟨[.any, .any, .any, .any, .any, .v (.one (.sc (.bool (!(t1 == t2))))), .v (.one (.ptr 0 ⟨0, 0, 0, 0⟩)), .v (.one (.ptr 1 ⟨0, 0, 0, 0⟩)), .any, .any, .any, .any, .any, .any, .any, .any, .any, .any, .any, .any, .any, .any, .any, .any, .any, .any, .any, .any, .any, .any, .any, .any, .any, .any, .any, .any, .any, .any, .any, .any, .any, .any, .any, .any, .any, .any, .any, .any, .any, .any, .any, .any, .any, .any, .any, .any, .any, .any, .any, .any, .any, .any, .any, .any, .any, .any, .any, .any, .any, .any, .any, .any, .any, .any, .any, .any, .any, .any, .any, .any, .any, .any, .any, .any, .any, .any, .any, .any, .any, .any, .any, .any, .any, .any, .any, .any, .any, .any, .any, .any, .any, .any, .any, .any, .any, .any, .any, .any, .any], [.ex false [.c (.sc (.bool t57.1)), .c (.sc (.int .u64 t69.1)), .c (.sc (.int .i64 t69.2)), .c (.sc (.bool (z3 t57)))] 93, .ex false [.c (.sc (.bool t58.1)), .c (.sc (.int .u64 t58.2.1)), .c (.sc (.int .i64 (p2 t58))), .c (.sc (.bool (z3 t58)))] 93], 0⟩ (fun e s => e = (.exit 2) ∧ s = ⟨[.any, .any, .any, .any, .any, .v (.one (.sc (.bool (!(t1 == t2))))), .v (.one (.ptr 0 ⟨0, 0, 0, 0⟩)), .v (.one (.ptr 1 ⟨0, 0, 0, 0⟩)), .any, .any, .any, .any, .any, .any, .any, .any, .any, .any, .any, .any, .any, .any, .any, .any, .any, .any, .any, .any, .any, .any, .any, .any, .any, .any, .any, .any, .any, .any, .any, .any, .any, .any, .any, .any, .any, .any, .any, .any, .any, .any, .any, .any, .any, .any, .any, .any, .any, .any, .any, .any, .any, .any, .any, .any, .any, .any, .any, .any, .any, .any, .any, .any, .any, .any, .any, .any, .any, .any, .any, .any, .any, .any, .any, .any, .any, .any, .any, .any, .any, .any, .any, .any, .any, .any, .any, .any, .any, .any, .any, .any, .any, .any, .any, .any, .any, .any, .any, .any, .any], [.ex false [.c (.sc (.bool t57.1)), .c (.sc (.int .u64 t69.1)), .c (.sc (.int .i64 t69.2)), .c (.sc (.bool (z3 t57)))] 93, .ex false [.c (.sc (.bool t58.1)), .c (.sc (.int .u64 t81.1)), .c (.sc (.int .i64 t81.2)), .c (.sc (.bool (z3 t58)))] 93], 0⟩) ∧ (True) ∧ (True) ∧ (∃ t87 : Int × Int, (Fun cfg 64 [.one (.sc (.int .u64 t69.1)), .one (.sc (.int .u64 t81.1))] [] (halterref02_Product.R t87) [] ∧ True) ∧ (True) ∧ ((70368744177664 : Int) ≠ 0) ∧ (True) ∧ (True) ∧ (True) ∧ (True) ∧ (True) ∧ ((70368744177664 : Int) ≠ 0) ∧ (True) ∧ (∃ t88 : Int, (Fun cfg 63 [.agg [.c (.sc (.bool (!(t1 == t2)))), .c (.sc (.int .u64 (IntKind.wrap .u64 ((IntKind.wrap .u64 ((256 : Int) * t87.1)) + (IntKind.wrap .u64 (Int.tdiv t87.2 (70368744177664 : Int))))))), .c (.sc (.int .i64 (IntKind.wrap .i64 ((IntKind.wrap .i64 (t69.2 + t81.2)) + (46 : Int))))), .c (.sc (.bool (decide ((Int.tmod t87.2 (70368744177664 : Int)) > (0 : Int)))))]] [] (halterref02_Round.R t88) [] ∧ True) ∧ (True ∧ ((True) ∧ ((True) ∧ True) ∧ (.v (.one (.sc (.int .u64 t88))) : Tm) = halterref02_Mul.R r ∧ ([] : List Box) = []))))))))))))))))) ∧ ((t57.2.1 == (0 : Int)) = true → ((t57.2.1 == (0 : Int)) = true ∧ ((t57.2.1 == (0 : Int)) = true ∧ ((t57.2.1 == (0 : Int)) = true ∧ (true = true ∧ (∃ t60 : Int, (Fun cfg 62 [.one (.sc (.bool (!(t1 == t2)))), .one (.sc (.int .u64 (0 : Int)))] [] (halterref02_signed.R t60) [] ∧ True) ∧ (True ∧ ((True) ∧ ((True) ∧ True) ∧ (.v (.one (.sc (.int .u64 t60))) : Tm) = halterref02_Mul.R r ∧ ([] : List Box) = [])))))))))))))))))) ∧ ((t51 == (3 : Int)) = true → ((t51 == (3 : Int)) = true ∧ ((t51 == (3 : Int)) = true ∧ ((t51 == (3 : Int)) = true ∧ (true = true ∧ (∃ t53 : Int, (Fun cfg 62 [.one (.sc (.bool (!(t1 == t2)))), .one (.sc (.int .u64 (9218868437227405312 : Int)))] [] (halterref02_signed.R t53) [] ∧ True) ∧ (True ∧ ((True) ∧ (True) ∧ (.v (.one (.sc (.int .u64 t53))) : Tm) = halterref02_Mul.R r ∧ ([] : List Box) = []))))))))))))))))))))))) ∧ ((t7 == (0 : Int)) = true → ((t7 == (0 : Int)) = true ∧ ((t7 == (0 : Int)) = true ∧ ((t7 == (0 : Int)) = true ∧ ((t7 == (0 : Int)) = true ∧ ((t7 == (0 : Int)) = true ∧ (true = true ∧ (True ∧ (True ∧ ((True) ∧ (True) ∧ (.v (.one (.sc (.int .u64 (9221120237041090560 : Int)))) : Tm) = halterref02_Mul.R r ∧ ([] : List Box) = [])))))))))))))))))) ∧ ((t5 == (3 : Int)) = false → ((t5 == (3 : Int)) = false ∧ ((t5 == (3 : Int)) = false ∧ (t3 = false ∧ ((t5 == (3 : Int)) = false ∧ (t3 = false ∧ (false = false ∧ (false = false ∧ (∃ t89 : Int, (Fun cfg 36 [.one (.sc (.int .u64 a0))] [] (halterref02_Class.R t89) [] ∧ True) ∧ (false = false ∧ (True) ∧ (false = false ∧ (((t89 == (0 : Int)) = true → ((t89 == (0 : Int)) = true ∧ (∃ t91 : Int, (Fun cfg 36 [.one (.sc (.int .u64 a1))] [] (halterref02_Class.R t91) [] ∧ True) ∧ ((t89 == (0 : Int)) = true ∧ (True) ∧ (false = false ∧ ((t89 == (0 : Int)) = true ∧ (false = false ∧ (((t91 == (3 : Int)) = true → (True ∧ (True ∧ ((True) ∧ (True) ∧ (.v (.one (.sc (.int .u64 (9221120237041090560 : Int)))) : Tm) = halterref02_Mul.R r ∧ ([] : List Box) = [])))) ∧ ((t91 == (3 : Int)) = false → (∃ t93 : Int, (Fun cfg 36 [.one (.sc (.int .u64 a0))] [] (halterref02_Class.R t93) [] ∧ True) ∧ (True) ∧ (((t93 == (3 : Int)) = false → ((t93 == (3 : Int)) = false ∧ (∃ t96 : Int, (Fun cfg 36 [.one (.sc (.int .u64 a1))] [] (halterref02_Class.R t96) [] ∧ True) ∧ ((t93 == (3 : Int)) = false ∧ (True) ∧ ((t93 == (3 : Int)) = false ∧ (((t96 == (3 : Int)) = true → (∃ t98 : Int, (Fun cfg 62 [.one (.sc (.bool (!(t1 == t2)))), .one (.sc (.int .u64 (9218868437227405312 : Int)))] [] (halterref02_signed.R t98) [] ∧ True) ∧ (True ∧ ((True) ∧ (True) ∧ (.v (.one (.sc (.int .u64 t98))) : Tm) = halterref02_Mul.R r ∧ ([] : List Box) = [])))) ∧ ((t96 == (3 : Int)) = false → (∃ t99 : Bool × Int × Int × Bool, (Fun cfg 61 [.one (.sc (.int .u64 a0))] [] (halterref02_Open.R t99) [] ∧ True) ∧ (∃ t100 : Bool × Int × Int × Bool, (Fun cfg 61 [.one (.sc (.int .u64 a1))] [] (halterref02_Open.R t100) [] ∧ True) ∧ (True) ∧ (True) ∧ (True) ∧ (True) ∧ (((t99.2.1 == (0 : Int)) = false → ((t99.2.1 == (0 : Int)) = false ∧ (True) ∧ ((t99.2.1 == (0 : Int)) = false ∧ (True) ∧ ((t99.2.1 == (0 : Int)) = false ∧ (((t100.2.1 == (0 : Int)) = true → (∃ t104 : Int, (Fun cfg 62 [.one (.sc (.bool (!(t1 == t2)))), .one (.sc (.int .u64 (0 : Int)))] [] (halterref02_signed.R t104) [] ∧ True) ∧ (True ∧ ((True) ∧ ((True) ∧ True) ∧ (.v (.one (.sc (.int .u64 t104))) : Tm) = halterref02_Mul.R r ∧ ([] : List Box) = [])))) ∧ ((t100.2.1 == (0 : Int)) = false → (True ∧ (True ∧ (((True) ∧ True) ∧ (∃ t111 : Int × Int, Trip cfg (.loop (cpath (Tryd.f38.body.getD .skip) [1, 1, 1, 1, 1, 1, 0, 0, 0])) ⟨[.any, .any, .any, .any, .any, .v (.one (.sc (.bool (!(t1 == t2))))), .v (.one (.ptr 0 ⟨0, 0, 0, 0⟩)), .v (.one (.ptr 1 ⟨0, 0, 0, 0⟩)), .any, .any, .any, .any, .any, .any, .any, .any, .any, .any, .any, .any, .any, .any, .any, .any, .any, .any, .any, .any, .any, .any, .any, .any, .any, .any, .any, .any, .any, .any, .any, .any, .any, .any, .any, .any, .any, .any, .any, .any, .any, .any, .any, .any, .any, .any, .any, .any, .any, .any, .any, .any, .any, .any, .any, .any, .any, .any, .any, .any, .any, .any, .any, .any, .any, .any, .any, .any, .any, .any, .any, .any, .any, .any, .any, .any, .any, .any, .any, .any, .any, .any, .any, .any, .any, .any, .any, .any, .any, .any, .any, .any, .any, .any, .any, .any, .any, .any, .any, .any, .any], [.ex false [.c (.sc (.bool t99.1)), .c (.sc (.int .u64 t99.2.1)), .c (.sc (.int .i64 (p2 t99))), .c (.sc (.bool (z3 t99)))] 93, .ex false [.c (.sc (.bool t100.1)), .c (.sc (.int .u64 t100.2.1)), .c (.sc (.int .i64 (p2 t100))), .c (.sc (.bool (z3 t100)))] 93], 0⟩ (fun e s => e = (.exit 0) ∧ s = ⟨[.any, .any, .any, .any, .any, .v (.one (.sc (.bool (!(t1 == t2))))), .v (.one (.ptr 0 ⟨0, 0, 0, 0⟩)), .v (.one (.ptr 1 ⟨0, 0, 0, 0⟩)), .any, .any, .any, .any, .any, .any, .any, .any, .any, .any, .any, .any, .any, .any, .any, .any, .any, .any, .any, .any, .any, .any, .any, .any, .any, .any, .any, .any, .any, .any, .any, .any, .any, .any, .any, .any, .any, .any, .any, .any, .any, .any, .any, .any, .any, .any, .any, .any, .any, .any, .any, .any, .any, .any, .any, .any, .any, .any, .any, .any, .any, .any, .any, .any, .any, .any, .any, .any, .any, .any, .any, .any, .any, .any, .any, .any, .any, .any, .any, .any, .any, .any, .any, .any, .any, .any, .any, .any, .any, .any, .any, .any, .any, .any, .any, .any, .any, .any, .any, .any, .any], [.ex false [.c (.sc (.bool t99.1)), .c (.sc (.int .u64 t111.1)), .c (.sc (.int .i64 t111.2)), .c (.sc (.bool (z3 t99)))] 93, .ex false [.c (.sc (.bool t100.1)), .c (.sc (.int .u64 t100.2.1)), .c (.sc (.int .i64 (p2 t100))), .c (.sc (.bool (z3 t100)))] 93], 0⟩) ∧ (True ∧ (((True) ∧ True) ∧ (∃ t123 : Int × Int, Trip cfg (.loop (cpath (Tryd.f38.body.getD .skip) [1, 1, 1, 1, 1, 1, 1, 0, 0, 0])) ⟨[.any, .any, .any, .any, .any, .v (.one (.sc (.bool (!(t1 == t2))))), .v (.one (.ptr 0 ⟨0, 0, 0, 0⟩)), .v (.one (.ptr 1 ⟨0, 0, 0, 0⟩)), .any, .any, .any, .any, .any, .any, .any, .any, .any, .any, .any, .any, .any, .any, .any, .any, .any, .any, .any, .any, .any, .any, .any, .any, .any, .any, .any, .any, .any, .any, .any, .any, .any, .any, .any, .any, .any, .any, .any, .any, .any, .any, .any, .any, .any, .any, .any, .any, .any, .any, .any, .any, .any, .any, .any, .any, .any, .any, .any, .any, .any, .any, .any, .any, .any, .any, .any, .any, .any, .any, .any, .any, .any, .any, .any, .any, .any, .any, .any, .any, .any, .any, .any, .any, .any, .any, .any, .any, .any, .any, .any, .any, .any, .any, .any, .any, .any, .any, .any, .any, .any], [.ex false [.c (.sc (.bool t99.1)), .c (.sc (.int .u64 t111.1)), .c (.sc (.int .i64 t111.2)), .c (.sc (.bool (z3 t99)))] 93, .ex false [.c (.sc (.bool t100.1)), .c (.sc (.int .u64 t100.2.1)), .c (.sc (.int .i64 (p2 t100))), .c (.sc (.bool (z3 t100)))] 93], 0⟩ (fun e s => e = (.exit 2) ∧ s = ⟨[.any, .any, .any, .any, .any, .v (.one (.sc (.bool (!(t1 == t2))))), .v (.one (.ptr 0 ⟨0, 0, 0, 0⟩)), .v (.one (.ptr 1 ⟨0, 0, 0, 0⟩)), .any, .any, .any, .any, .any, .any, .any, .any, .any, .any, .any, .any, .any, .any, .any, .any, .any, .any, .any, .any, .any, .any, .any, .any, .any, .any, .any, .any, .any, .any, .any, .any, .any, .any, .any, .any, .any, .any, .any, .any, .any, .any, .any, .any, .any, .any, .any, .any, .any, .any, .any, .any, .any, .any, .any, .any, .any, .any, .any, .any, .any, .any, .any, .any, .any, .any, .any, .any, .any, .any, .any, .any, .any, .any, .any, .any, .any, .any, .any, .any, .any, .any, .any, .any, .any, .any, .any, .any, .any, .any, .any, .any, .any, .any, .any, .any, .any, .any, .any, .any, .any], [.ex false [.c (.sc (.bool t99.1)), .c (.sc (.int .u64 t111.1)), .c (.sc (.int .i64 t111.2)), .c (.sc (.bool (z3 t99)))] 93, .ex false [.c (.sc (.bool t100.1)), .c (.sc (.int .u64 t123.1)), .c (.sc (.int .i64 t123.2)), .c (.sc (.bool (z3 t100)))] 93], 0⟩) ∧ (True) ∧ (True) ∧ (∃ t129 : Int × Int, (Fun cfg 64 [.one (.sc (.int .u64 t111.1)), .one (.sc (.int .u64 t123.1))] [] (halterref02_Product.R t129) [] ∧ True) ∧ (True) ∧ ((70368744177664 : Int) ≠ 0) ∧ (True) ∧ (True) ∧ (True) ∧ (True) ∧ (True) ∧ ((70368744177664 : Int) ≠ 0) ∧ (True) ∧ (∃ t130 : Int, (Fun cfg 63 [.agg [.c (.sc (.bool (!(t1 == t2)))), .c (.sc (.int .u64 (IntKind.wrap .u64 ((IntKind.wrap .u64 ((256 : Int) * t129.1)) + (IntKind.wrap .u64 (Int.tdiv t129.2 (70368744177664 : Int))))))), .c (.sc (.int .i64 (IntKind.wrap .i64 ((IntKind.wrap .i64 (t111.2 + t123.2)) + (46 : Int))))), .c (.sc (.bool (decide ((Int.tmod t129.2 (70368744177664 : Int)) > (0 : Int)))))]] [] (halterref02_Round.R t130) [] ∧ True) ∧ (True ∧ ((True) ∧ ((True) ∧ True) ∧ (.v (.one (.sc (.int .u64 t130))) : Tm) = halterref02_Mul.R r ∧ ([] : List Box) = []))))))))))))))))) ∧ ((t99.2.1 == (0 : Int)) = true → ((t99.2.1 == (0 : Int)) = true ∧ ((t99.2.1 == (0 : Int)) = true ∧ ((t99.2.1 == (0 : Int)) = true ∧ (true = true ∧ (∃ t102 : Int, (Fun cfg 62 [.one (.sc (.bool (!(t1 == t2)))), .one (.sc (.int .u64 (0 : Int)))] [] (halterref02_signed.R t102) [] ∧ True) ∧ (True ∧ ((True) ∧ ((True) ∧ True) ∧ (.v (.one (.sc (.int .u64 t102))) : Tm) = halterref02_Mul.R r ∧ ([] : List Box) = [])))))))))))))))))) ∧ ((t93 == (3 : Int)) = true → ((t93 == (3 : Int)) = true ∧ ((t93 == (3 : Int)) = true ∧ ((t93 == (3 : Int)) = true ∧ (true = true ∧ (∃ t95 : Int, (Fun cfg 62 [.one (.sc (.bool (!(t1 == t2)))), .one (.sc (.int .u64 (9218868437227405312 : Int)))] [] (halterref02_signed.R t95) [] ∧ True) ∧ (True ∧ ((True) ∧ (True) ∧ (.v (.one (.sc (.int .u64 t95))) : Tm) = halterref02_Mul.R r ∧ ([] : List Box) = []))))))))))))))))))) ∧ ((t89 == (0 : Int)) = false → ((t89 == (0 : Int)) = false ∧ ((t89 == (0 : Int)) = false ∧ (false = false ∧ ((t89 == (0 : Int)) = false ∧ (false = false ∧ (false = false ∧ (∃ t131 : Int, (Fun cfg 36 [.one (.sc (.int .u64 a0))] [] (halterref02_Class.R t131) [] ∧ True) ∧ (True) ∧ (((t131 == (3 : Int)) = false → ((t131 == (3 : Int)) = false ∧ (∃ t134 : Int, (Fun cfg 36 [.one (.sc (.int .u64 a1))] [] (halterref02_Class.R t134) [] ∧ True) ∧ ((t131 == (3 : Int)) = false ∧ (True) ∧ ((t131 == (3 : Int)) = false ∧ (((t134 == (3 : Int)) = true → (∃ t136 : Int, (Fun cfg 62 [.one (.sc (.bool (!(t1 == t2)))), .one (.sc (.int .u64 (9218868437227405312 : Int)))] [] (halterref02_signed.R t136) [] ∧ True) ∧ (True ∧ ((True) ∧ (True) ∧ (.v (.one (.sc (.int .u64 t136))) : Tm) = halterref02_Mul.R r ∧ ([] : List Box) = [])))) ∧ ((t134 == (3 : Int)) = false → (∃ t137 : Bool × Int × Int × Bool, (Fun cfg 61 [.one (.sc (.int .u64 a0))] [] (halterref02_Open.R t137) [] ∧ True) ∧ (∃ t138 : Bool × Int × Int × Bool, (Fun cfg 61 [.one (.sc (.int .u64 a1))] [] (halterref02_Open.R t138) [] ∧ True) ∧ (True) ∧ (True) ∧ (True) ∧ (True) ∧ (((t137.2.1 == (0 : Int)) = false → ((t137.2.1 == (0 : Int)) = false ∧ (True) ∧ ((t137.2.1 == (0 : Int)) = false ∧ (True) ∧ ((t137.2.1 == (0 : Int)) = false ∧ (((t138.2.1 == (0 : Int)) = true → (∃ t142 : Int, (Fun cfg 62 [.one (.sc (.bool (!(t1 == t2)))), .one (.sc (.int .u64 (0 : Int)))] [] (halterref02_signed.R t142) [] ∧ True) ∧ (True ∧ ((True) ∧ ((True) ∧ True) ∧ (.v (.one (.sc (.int .u64 t142))) : Tm) = halterref02_Mul.R r ∧ ([] : List Box) = [])))) ∧ ((t138.2.1 == (0 : Int)) = false → (True ∧ (True ∧ (((True) ∧ True) ∧ (∃ t149 : Int × Int, Trip cfg (.loop (cpath (Tryd.f38.body.getD .skip) [1, 1, 1, 1, 1, 1, 0, 0, 0])) ⟨[.any, .any, .any, .any, .any, .v (.one (.sc (.bool (!(t1 == t2))))), .v (.one (.ptr 0 ⟨0, 0, 0, 0⟩)), .v (.one (.ptr 1 ⟨0, 0, 0, 0⟩)), .any, .any, .any, .any, .any, .any, .any, .any, .any, .any, .any, .any, .any, .any, .any, .any, .any, .any, .any, .any, .any, .any, .any, .any, .any, .any, .any, .any, .any, .any, .any, .any, .any, .any, .any, .any, .any, .any, .any, .any, .any, .any, .any, .any, .any, .any, .any, .any, .any, .any, .any, .any, .any, .any, .any, .any, .any, .any, .any, .any, .any, .any, .any, .any, .any, .any, .any, .any, .any, .any, .any, .any, .any, .any, .any, .any, .any, .any, .any, .any, .any, .any, .any, .any, .any, .any, .any, .any, .any, .any, .any, .any, .any, .any, .any, .any, .any, .any, .any, .any, .any], [.ex false [.c (.sc (.bool t137.1)), .c (.sc (.int .u64 t137.2.1)), .c (.sc (.int .i64 (p2 t137))), .c (.sc (.bool (z3 t137)))] 93, .ex false [.c (.sc (.bool t138.1)), .c (.sc (.int .u64 t138.2.1)), .c (.sc (.int .i64 (p2 t138))), .c (.sc (.bool (z3 t138)))] 93], 0⟩ (fun e s => e = (.exit 0) ∧ s = ⟨[.any, .any, .any, .any, .any, .v (.one (.sc (.bool (!(t1 == t2))))), .v (.one (.ptr 0 ⟨0, 0, 0, 0⟩)), .v (.one (.ptr 1 ⟨0, 0, 0, 0⟩)), .any, .any, .any, .any, .any, .any, .any, .any, .any, .any, .any, .any, .any, .any, .any, .any, .any, .any, .any, .any, .any, .any, .any, .any, .any, .any, .any, .any, .any, .any, .any, .any, .any, .any, .any, .any, .any, .any, .any, .any, .any, .any, .any, .any, .any, .any, .any, .any, .any, .any, .any, .any, .any, .any, .any, .any, .any, .any, .any, .any, .any, .any, .any, .any, .any, .any, .any, .any, .any, .any, .any, .any, .any, .any, .any, .any, .any, .any, .any, .any, .any, .any, .any, .any, .any, .any, .any, .any, .any, .any, .any, .any, .any, .any, .any, .any, .any, .any, .any, .any, .any], [.ex false [.c (.sc (.bool t137.1)), .c (.sc (.int .u64 t149.1)), .c (.sc (.int .i64 t149.2)), .c (.sc (.bool (z3 t137)))] 93, .ex false [.c (.sc (.bool t138.1)), .c (.sc (.int .u64 t138.2.1)), .c (.sc (.int .i64 (p2 t138))), .c (.sc (.bool (z3 t138)))] 93], 0⟩) ∧ (True ∧ (((True) ∧ True) ∧ (∃ t161 : Int × Int, Trip cfg (.loop (cpath (Tryd.f38.body.getD .skip) [1, 1, 1, 1, 1, 1, 1, 0, 0, 0])) ⟨[.any, .any, .any, .any, .any, .v (.one (.sc (.bool (!(t1 == t2))))), .v (.one (.ptr 0 ⟨0, 0, 0, 0⟩)), .v (.one (.ptr 1 ⟨0, 0, 0, 0⟩)), .any, .any, .any, .any, .any, .any, .any, .any, .any, .any, .any, .any, .any, .any, .any, .any, .any, .any, .any, .any, .any, .any, .any, .any, .any, .any, .any, .any, .any, .any, .any, .any, .any, .any, .any, .any, .any, .any, .any, .any, .any, .any, .any, .any, .any, .any, .any, .any, .any, .any, .any, .any, .any, .any, .any, .any, .any, .any, .any, .any, .any, .any, .any, .any, .any, .any, .any, .any, .any, .any, .any, .any, .any, .any, .any, .any, .any, .any, .any, .any, .any, .any, .any, .any, .any, .any, .any, .any, .any, .any, .any, .any, .any, .any, .any, .any, .any, .any, .any, .any, .any], [.ex false [.c (.sc (.bool t137.1)), .c (.sc (.int .u64 t149.1)), .c (.sc (.int .i64 t149.2)), .c (.sc (.bool (z3 t137)))] 93, .ex false [.c (.sc (.bool t138.1)), .c (.sc (.int .u64 t138.2.1)), .c (.sc (.int .i64 (p2 t138))), .c (.sc (.bool (z3 t138)))] 93], 0⟩ (fun e s => e = (.exit 2) ∧ s = ⟨[.any, .any, .any, .any, .any, .v (.one (.sc (.bool (!(t1 == t2))))), .v (.one (.ptr 0 ⟨0, 0, 0, 0⟩)), .v (.one (.ptr 1 ⟨0, 0, 0, 0⟩)), .any, .any, .any, .any, .any, .any, .any, .any, .any, .any, .any, .any, .any, .any, .any, .any, .any, .any, .any, .any, .any, .any, .any, .any, .any, .any, .any, .any, .any, .any, .any, .any, .any, .any, .any, .any, .any, .any, .any, .any, .any, .any, .any, .any, .any, .any, .any, .any, .any, .any, .any, .any, .any, .any, .any, .any, .any, .any, .any, .any, .any, .any, .any, .any, .any, .any, .any, .any, .any, .any, .any, .any, .any, .any, .any, .any, .any, .any, .any, .any, .any, .any, .any, .any, .any, .any, .any, .any, .any, .any, .any, .any, .any, .any, .any, .any, .any, .any, .any, .any, .any], [.ex false [.c (.sc (.bool t137.1)), .c (.sc (.int .u64 t149.1)), .c (.sc (.int .i64 t149.2)), .c (.sc (.bool (z3 t137)))] 93, .ex false [.c (.sc (.bool t138.1)), .c (.sc (.int .u64 t161.1)), .c (.sc (.int .i64 t161.2)), .c (.sc (.bool (z3 t138)))] 93], 0⟩) ∧ (True) ∧ (True) ∧ (∃ t167 : Int × Int, (Fun cfg 64 [.one (.sc (.int .u64 t149.1)), .one (.sc (.int .u64 t161.1))] [] (halterref02_Product.R t167) [] ∧ True) ∧ (True) ∧ ((70368744177664 : Int) ≠ 0) ∧ (True) ∧ (True) ∧ (True) ∧ (True) ∧ (True) ∧ ((70368744177664 : Int) ≠ 0) ∧ (True) ∧ (∃ t168 : Int, (Fun cfg 63 [.agg [.c (.sc (.bool (!(t1 == t2)))), .c (.sc (.int .u64 (IntKind.wrap .u64 ((IntKind.wrap .u64 ((256 : Int) * t167.1)) + (IntKind.wrap .u64 (Int.tdiv t167.2 (70368744177664 : Int))))))), .c (.sc (.int .i64 (IntKind.wrap .i64 ((IntKind.wrap .i64 (t149.2 + t161.2)) + (46 : Int))))), .c (.sc (.bool (decide ((Int.tmod t167.2 (70368744177664 : Int)) > (0 : Int)))))]] [] (halterref02_Round.R t168) [] ∧ True) ∧ (True ∧ ((True) ∧ ((True) ∧ True) ∧ (.v (.one (.sc (.int .u64 t168))) : Tm) = halterref02_Mul.R r ∧ ([] : List Box) = []))))))))))))))))) ∧ ((t137.2.1 == (0 : Int)) = true → ((t137.2.1 == (0 : Int)) = true ∧ ((t137.2.1 == (0 : Int)) = true ∧ ((t137.2.1 == (0 : Int)) = true ∧ (true = true ∧ (∃ t140 : Int, (Fun cfg 62 [.one (.sc (.bool (!(t1 == t2)))), .one (.sc (.int .u64 (0 : Int)))] [] (halterref02_signed.R t140) [] ∧ True) ∧ (True ∧ ((True) ∧ ((True) ∧ True) ∧ (.v (.one (.sc (.int .u64 t140))) : Tm) = halterref02_Mul.R r ∧ ([] : List Box) = [])))))))))))))))))) ∧ ((t131 == (3 : Int)) = true → ((t131 == (3 : Int)) = true ∧ ((t131 == (3 : Int)) = true ∧ ((t131 == (3 : Int)) = true ∧ (true = true ∧ (∃ t133 : Int, (Fun cfg 62 [.one (.sc (.bool (!(t1 == t2)))), .one (.sc (.int .u64 (9218868437227405312 : Int)))] [] (halterref02_signed.R t133) [] ∧ True) ∧ (True ∧ ((True) ∧ (True) ∧ (.v (.one (.sc (.int .u64 t133))) : Tm) = halterref02_Mul.R r ∧ ([] : List Box) = []))))))))))))))))))))))))))))))))))) ∧ (t3 = true → (t3 = true ∧ (t3 = true ∧ (t3 = true ∧ (t3 = true ∧ (t3 = true ∧ (true = true ∧ (true = true ∧ (true = true ∧ (true = true ∧ (true = true ∧ (true = true ∧ (true = true ∧ (True ∧ (True ∧ ((True) ∧ (True) ∧ (.v (.one (.sc (.int .u64 (9221120237041090560 : Int)))) : Tm) = halterref02_Mul.R r ∧ ([] : List Box) = []))))))))))))))))))))) (by kernel_rfl) ?_)
  obtain ⟨t1, ht1, h⟩ := of_bind h
  refine ⟨t1, ⟨halterref02_Neg.fun_ ht1, trivial⟩, ?_⟩
  obtain ⟨t2, ht2, h⟩ := of_bind h
  refine ⟨t2, ⟨halterref02_Neg.fun_ ht2, trivial⟩, ?_⟩
  refine ⟨trivial, ?_⟩
  obtain ⟨t3, ht3, h⟩ := of_bind h
  refine ⟨t3, ⟨halterref02_none.fun_ ht3, trivial⟩, ?_⟩
  refine ⟨fun b4 => ?_, fun b4 => ?_⟩
  · rw [if_neg (ff b4)] at h
    refine ⟨b4, ?_⟩
    obtain ⟨t5, ht5, h⟩ := of_bind h
    refine ⟨t5, ⟨halterref02_Class.fun_ ht5, trivial⟩, ?_⟩
    refine ⟨b4, ?_⟩
    refine ⟨trivial, ?_⟩
    refine ⟨b4, ?_⟩
    refine ⟨fun b6 => ?_, fun b6 => ?_⟩
    · rw [if_pos (beq_t b6)] at h
      refine ⟨b6, ?_⟩
      obtain ⟨t7, ht7, h⟩ := of_bind h
      refine ⟨t7, ⟨halterref02_Class.fun_ ht7, trivial⟩, ?_⟩
      refine ⟨b6, ?_⟩
      refine ⟨trivial, ?_⟩
      refine ⟨b4, ?_⟩
      refine ⟨b6, ?_⟩
      refine ⟨b4, ?_⟩
      refine ⟨fun b8 => ?_, fun b8 => ?_⟩
      · rw [if_neg (beq_f b8)] at h
        refine ⟨b8, ?_⟩
        obtain ⟨t9, ht9, h⟩ := of_bind h
        refine ⟨t9, ⟨halterref02_Class.fun_ ht9, trivial⟩, ?_⟩
        refine ⟨b8, ?_⟩
        refine ⟨trivial, ?_⟩
        refine ⟨b8, ?_⟩
        refine ⟨fun b10 => ?_, fun b10 => ?_⟩
        · rw [if_pos (beq_t b10)] at h
          refine ⟨b10, ?_⟩
          obtain ⟨t11, ht11, h⟩ := of_bind h
          refine ⟨t11, ⟨halterref02_Class.fun_ ht11, trivial⟩, ?_⟩
          refine ⟨b10, ?_⟩
          refine ⟨trivial, ?_⟩
          refine ⟨b8, ?_⟩
          refine ⟨b10, ?_⟩
          refine ⟨b8, ?_⟩
          refine ⟨fun b12 => ?_, fun b12 => ?_⟩
          · rw [if_pos (beq_t b12)] at h
            refine ⟨trivial, trivial, ?_⟩
            obtain rfl := Option.some.inj h
            exact ⟨trivial, trivial, rfl, rfl⟩
          · rw [if_neg (beq_f b12)] at h
            obtain ⟨t13, ht13, h⟩ := of_bind h
            refine ⟨t13, ⟨halterref02_Class.fun_ ht13, trivial⟩, ?_⟩
            refine ⟨trivial, ?_⟩
            refine ⟨fun b14 => ?_, fun b14 => ?_⟩
            · rw [if_neg (beq_f b14)] at h
              refine ⟨b14, ?_⟩
              obtain ⟨t16, ht16, h⟩ := of_bind h
              refine ⟨t16, ⟨halterref02_Class.fun_ ht16, trivial⟩, ?_⟩
              refine ⟨b14, ?_⟩
              refine ⟨trivial, ?_⟩
              refine ⟨b14, ?_⟩
              refine ⟨fun b17 => ?_, fun b17 => ?_⟩
              · rw [if_pos (beq_t b17)] at h
                obtain ⟨t18, ht18, h⟩ := of_bind h
                refine ⟨t18, ⟨halterref02_signed.fun_ ht18, trivial⟩, ?_⟩
                refine ⟨trivial, ?_⟩
                obtain rfl := Option.some.inj h
                exact ⟨trivial, trivial, rfl, rfl⟩
              · rw [if_neg (beq_f b17)] at h
                obtain ⟨t19, ht19, h⟩ := of_bind h
                refine ⟨t19, ⟨halterref02_Open.fun_ ht19, trivial⟩, ?_⟩
                obtain ⟨t20, ht20, h⟩ := of_bind h
                refine ⟨t20, ⟨halterref02_Open.fun_ ht20, trivial⟩, ?_⟩
                refine ⟨trivial, trivial, trivial, trivial, ?_⟩
                refine ⟨fun b21 => ?_, fun b21 => ?_⟩
                · rw [if_neg (beq_f b21)] at h
                  refine ⟨b21, ?_⟩
                  refine ⟨trivial, ?_⟩
                  refine ⟨b21, ?_⟩
                  refine ⟨trivial, ?_⟩
                  refine ⟨b21, ?_⟩
                  refine ⟨fun b23 => ?_, fun b23 => ?_⟩
                  · rw [if_pos (beq_t b23)] at h
                    obtain ⟨t24, ht24, h⟩ := of_bind h
                    refine ⟨t24, ⟨halterref02_signed.fun_ ht24, trivial⟩, ?_⟩
                    refine ⟨trivial, ?_⟩
                    obtain rfl := Option.some.inj h
                    exact ⟨trivial, ⟨trivial, trivial⟩, rfl, rfl⟩
                  · rw [if_neg (beq_f b23)] at h
                    refine ⟨trivial, trivial, ?_⟩
                    obtain ⟨t31, ht31, h⟩ := of_bind h
                    refine ⟨⟨trivial, trivial⟩, t31, Trip.loop FUEL (halterref02_Mul.l0_ok t1 t2 t19 t20 FUEL t19.2.1 t19.2.2.1 t31 ht31), ?_⟩
                    refine ⟨trivial, ?_⟩
                    obtain ⟨t43, ht43, h⟩ := of_bind h
                    refine ⟨⟨trivial, trivial⟩, t43, Trip.loop FUEL (halterref02_Mul.l1_ok t1 t2 t19 t20 t31 FUEL t20.2.1 t20.2.2.1 t43 ht43), ?_⟩
                    refine ⟨trivial, trivial, ?_⟩
                    obtain ⟨t49, ht49, h⟩ := of_bind h
                    refine ⟨t49, ⟨halterref02_Product.fun_ ht49, trivial⟩, ?_⟩
                    refine ⟨trivial, ?_⟩
                    refine ⟨(by decide), ?_⟩
                    refine ⟨trivial, trivial, trivial, trivial, trivial, ?_⟩
                    refine ⟨(by decide), ?_⟩
                    refine ⟨trivial, ?_⟩
                    obtain ⟨t50, ht50, h⟩ := of_bind h
                    refine ⟨t50, ⟨halterref02_Round.fun_ ht50, trivial⟩, ?_⟩
                    refine ⟨trivial, ?_⟩
                    obtain rfl := Option.some.inj h
                    exact ⟨trivial, ⟨trivial, trivial⟩, rfl, rfl⟩
                · rw [if_pos (beq_t b21)] at h
                  refine ⟨b21, ?_⟩
                  refine ⟨b21, ?_⟩
                  refine ⟨b21, ?_⟩
                  refine ⟨rfl, ?_⟩
                  obtain ⟨t22, ht22, h⟩ := of_bind h
                  refine ⟨t22, ⟨halterref02_signed.fun_ ht22, trivial⟩, ?_⟩
                  refine ⟨trivial, ?_⟩
                  obtain rfl := Option.some.inj h
                  exact ⟨trivial, ⟨trivial, trivial⟩, rfl, rfl⟩
            · rw [if_pos (beq_t b14)] at h
              refine ⟨b14, ?_⟩
              refine ⟨b14, ?_⟩
              refine ⟨b14, ?_⟩
              refine ⟨rfl, ?_⟩
              obtain ⟨t15, ht15, h⟩ := of_bind h
              refine ⟨t15, ⟨halterref02_signed.fun_ ht15, trivial⟩, ?_⟩
              refine ⟨trivial, ?_⟩
              obtain rfl := Option.some.inj h
              exact ⟨trivial, trivial, rfl, rfl⟩
        · rw [if_neg (beq_f b10)] at h
          refine ⟨b10, ?_⟩
          refine ⟨b10, ?_⟩
          refine ⟨b8, ?_⟩
          refine ⟨b10, ?_⟩
          refine ⟨b8, ?_⟩
          refine ⟨rfl, ?_⟩
          obtain ⟨t51, ht51, h⟩ := of_bind h
          refine ⟨t51, ⟨halterref02_Class.fun_ ht51, trivial⟩, ?_⟩
          refine ⟨trivial, ?_⟩
          refine ⟨fun b52 => ?_, fun b52 => ?_⟩
          · rw [if_neg (beq_f b52)] at h
            refine ⟨b52, ?_⟩
            obtain ⟨t54, ht54, h⟩ := of_bind h
            refine ⟨t54, ⟨halterref02_Class.fun_ ht54, trivial⟩, ?_⟩
            refine ⟨b52, ?_⟩
            refine ⟨trivial, ?_⟩
            refine ⟨b52, ?_⟩
            refine ⟨fun b55 => ?_, fun b55 => ?_⟩
            · rw [if_pos (beq_t b55)] at h
              obtain ⟨t56, ht56, h⟩ := of_bind h
              refine ⟨t56, ⟨halterref02_signed.fun_ ht56, trivial⟩, ?_⟩
              refine ⟨trivial, ?_⟩
              obtain rfl := Option.some.inj h
              exact ⟨trivial, trivial, rfl, rfl⟩
            · rw [if_neg (beq_f b55)] at h
              obtain ⟨t57, ht57, h⟩ := of_bind h
              refine ⟨t57, ⟨halterref02_Open.fun_ ht57, trivial⟩, ?_⟩
              obtain ⟨t58, ht58, h⟩ := of_bind h
              refine ⟨t58, ⟨halterref02_Open.fun_ ht58, trivial⟩, ?_⟩
              refine ⟨trivial, trivial, trivial, trivial, ?_⟩
              refine ⟨fun b59 => ?_, fun b59 => ?_⟩
              · rw [if_neg (beq_f b59)] at h
                refine ⟨b59, ?_⟩
                refine ⟨trivial, ?_⟩
                refine ⟨b59, ?_⟩
                refine ⟨trivial, ?_⟩
                refine ⟨b59, ?_⟩
                refine ⟨fun b61 => ?_, fun b61 => ?_⟩
                · rw [if_pos (beq_t b61)] at h
                  obtain ⟨t62, ht62, h⟩ := of_bind h
                  refine ⟨t62, ⟨halterref02_signed.fun_ ht62, trivial⟩, ?_⟩
                  refine ⟨trivial, ?_⟩
                  obtain rfl := Option.some.inj h
                  exact ⟨trivial, ⟨trivial, trivial⟩, rfl, rfl⟩
                · rw [if_neg (beq_f b61)] at h
                  refine ⟨trivial, trivial, ?_⟩
                  obtain ⟨t69, ht69, h⟩ := of_bind h
                  refine ⟨⟨trivial, trivial⟩, t69, Trip.loop FUEL (halterref02_Mul.l2_ok t1 t2 t57 t58 FUEL t57.2.1 t57.2.2.1 t69 ht69), ?_⟩
                  refine ⟨trivial, ?_⟩
                  obtain ⟨t81, ht81, h⟩ := of_bind h
                  refine ⟨⟨trivial, trivial⟩, t81, Trip.loop FUEL (halterref02_Mul.l3_ok t1 t2 t57 t58 t69 FUEL t58.2.1 t58.2.2.1 t81 ht81), ?_⟩
                  refine ⟨trivial, trivial, ?_⟩
                  obtain ⟨t87, ht87, h⟩ := of_bind h
                  refine ⟨t87, ⟨halterref02_Product.fun_ ht87, trivial⟩, ?_⟩
                  refine ⟨trivial, ?_⟩
                  refine ⟨(by decide), ?_⟩
                  refine ⟨trivial, trivial, trivial, trivial, trivial, ?_⟩
                  refine ⟨(by decide), ?_⟩
                  refine ⟨trivial, ?_⟩
                  obtain ⟨t88, ht88, h⟩ := of_bind h
                  refine ⟨t88, ⟨halterref02_Round.fun_ ht88, trivial⟩, ?_⟩
                  refine ⟨trivial, ?_⟩
                  obtain rfl := Option.some.inj h
                  exact ⟨trivial, ⟨trivial, trivial⟩, rfl, rfl⟩
              · rw [if_pos (beq_t b59)] at h
                refine ⟨b59, ?_⟩
                refine ⟨b59, ?_⟩
                refine ⟨b59, ?_⟩
                refine ⟨rfl, ?_⟩
                obtain ⟨t60, ht60, h⟩ := of_bind h
                refine ⟨t60, ⟨halterref02_signed.fun_ ht60, trivial⟩, ?_⟩
                refine ⟨trivial, ?_⟩
                obtain rfl := Option.some.inj h
                exact ⟨trivial, ⟨trivial, trivial⟩, rfl, rfl⟩
          · rw [if_pos (beq_t b52)] at h
            refine ⟨b52, ?_⟩
            refine ⟨b52, ?_⟩
            refine ⟨b52, ?_⟩
            refine ⟨rfl, ?_⟩
            obtain ⟨t53, ht53, h⟩ := of_bind h
            refine ⟨t53, ⟨halterref02_signed.fun_ ht53, trivial⟩, ?_⟩
            refine ⟨trivial, ?_⟩
            obtain rfl := Option.some.inj h
            exact ⟨trivial, trivial, rfl, rfl⟩
      · rw [if_pos (beq_t b8)] at h
        refine ⟨b8, ?_⟩
        refine ⟨b8, ?_⟩
        refine ⟨b8, ?_⟩
        refine ⟨b8, ?_⟩
        refine ⟨b8, ?_⟩
        refine ⟨rfl, trivial, trivial, ?_⟩
        obtain rfl := Option.some.inj h
        exact ⟨trivial, trivial, rfl, rfl⟩
    · rw [if_neg (beq_f b6)] at h
      refine ⟨b6, ?_⟩
      refine ⟨b6, ?_⟩
      refine ⟨b4, ?_⟩
      refine ⟨b6, ?_⟩
      refine ⟨b4, ?_⟩
      refine ⟨rfl, rfl, ?_⟩
      obtain ⟨t89, ht89, h⟩ := of_bind h
      refine ⟨t89, ⟨halterref02_Class.fun_ ht89, trivial⟩, ?_⟩
      refine ⟨rfl, trivial, rfl, ?_⟩
      refine ⟨fun b90 => ?_, fun b90 => ?_⟩
      · rw [if_pos (beq_t b90)] at h
        refine ⟨b90, ?_⟩
        obtain ⟨t91, ht91, h⟩ := of_bind h
        refine ⟨t91, ⟨halterref02_Class.fun_ ht91, trivial⟩, ?_⟩
        refine ⟨b90, ?_⟩
        refine ⟨trivial, rfl, ?_⟩
        refine ⟨b90, ?_⟩
        refine ⟨rfl, ?_⟩
        refine ⟨fun b92 => ?_, fun b92 => ?_⟩
        · rw [if_pos (beq_t b92)] at h
          refine ⟨trivial, trivial, ?_⟩
          obtain rfl := Option.some.inj h
          exact ⟨trivial, trivial, rfl, rfl⟩
        · rw [if_neg (beq_f b92)] at h
          obtain ⟨t93, ht93, h⟩ := of_bind h
          refine ⟨t93, ⟨halterref02_Class.fun_ ht93, trivial⟩, ?_⟩
          refine ⟨trivial, ?_⟩
          refine ⟨fun b94 => ?_, fun b94 => ?_⟩
          · rw [if_neg (beq_f b94)] at h
            refine ⟨b94, ?_⟩
            obtain ⟨t96, ht96, h⟩ := of_bind h
            refine ⟨t96, ⟨halterref02_Class.fun_ ht96, trivial⟩, ?_⟩
            refine ⟨b94, ?_⟩
            refine ⟨trivial, ?_⟩
            refine ⟨b94, ?_⟩
            refine ⟨fun b97 => ?_, fun b97 => ?_⟩
            · rw [if_pos (beq_t b97)] at h
              obtain ⟨t98, ht98, h⟩ := of_bind h
              refine ⟨t98, ⟨halterref02_signed.fun_ ht98, trivial⟩, ?_⟩
              refine ⟨trivial, ?_⟩
              obtain rfl := Option.some.inj h
              exact ⟨trivial, trivial, rfl, rfl⟩
            · rw [if_neg (beq_f b97)] at h
              obtain ⟨t99, ht99, h⟩ := of_bind h
              refine ⟨t99, ⟨halterref02_Open.fun_ ht99, trivial⟩, ?_⟩
              obtain ⟨t100, ht100, h⟩ := of_bind h
              refine ⟨t100, ⟨halterref02_Open.fun_ ht100, trivial⟩, ?_⟩
              refine ⟨trivial, trivial, trivial, trivial, ?_⟩
              refine ⟨fun b101 => ?_, fun b101 => ?_⟩
              · rw [if_neg (beq_f b101)] at h
                refine ⟨b101, ?_⟩
                refine ⟨trivial, ?_⟩
                refine ⟨b101, ?_⟩
                refine ⟨trivial, ?_⟩
                refine ⟨b101, ?_⟩
                refine ⟨fun b103 => ?_, fun b103 => ?_⟩
                · rw [if_pos (beq_t b103)] at h
                  obtain ⟨t104, ht104, h⟩ := of_bind h
                  refine ⟨t104, ⟨halterref02_signed.fun_ ht104, trivial⟩, ?_⟩
                  refine ⟨trivial, ?_⟩
                  obtain rfl := Option.some.inj h
                  exact ⟨trivial, ⟨trivial, trivial⟩, rfl, rfl⟩
                · rw [if_neg (beq_f b103)] at h
                  refine ⟨trivial, trivial, ?_⟩
                  obtain ⟨t111, ht111, h⟩ := of_bind h
                  refine ⟨⟨trivial, trivial⟩, t111, Trip.loop FUEL (halterref02_Mul.l4_ok t1 t2 t99 t100 FUEL t99.2.1 t99.2.2.1 t111 ht111), ?_⟩
                  refine ⟨trivial, ?_⟩
                  obtain ⟨t123, ht123, h⟩ := of_bind h
                  refine ⟨⟨trivial, trivial⟩, t123, Trip.loop FUEL (halterref02_Mul.l5_ok t1 t2 t99 t100 t111 FUEL t100.2.1 t100.2.2.1 t123 ht123), ?_⟩
                  refine ⟨trivial, trivial, ?_⟩
                  obtain ⟨t129, ht129, h⟩ := of_bind h
                  refine ⟨t129, ⟨halterref02_Product.fun_ ht129, trivial⟩, ?_⟩
                  refine ⟨trivial, ?_⟩
                  refine ⟨(by decide), ?_⟩
                  refine ⟨trivial, trivial, trivial, trivial, trivial, ?_⟩
                  refine ⟨(by decide), ?_⟩
                  refine ⟨trivial, ?_⟩
                  obtain ⟨t130, ht130, h⟩ := of_bind h
                  refine ⟨t130, ⟨halterref02_Round.fun_ ht130, trivial⟩, ?_⟩
                  refine ⟨trivial, ?_⟩
                  obtain rfl := Option.some.inj h
                  exact ⟨trivial, ⟨trivial, trivial⟩, rfl, rfl⟩
              · rw [if_pos (beq_t b101)] at h
                refine ⟨b101, ?_⟩
                refine ⟨b101, ?_⟩
                refine ⟨b101, ?_⟩
                refine ⟨rfl, ?_⟩
                obtain ⟨t102, ht102, h⟩ := of_bind h
                refine ⟨t102, ⟨halterref02_signed.fun_ ht102, trivial⟩, ?_⟩
                refine ⟨trivial, ?_⟩
                obtain rfl := Option.some.inj h
                exact ⟨trivial, ⟨trivial, trivial⟩, rfl, rfl⟩
          · rw [if_pos (beq_t b94)] at h
            refine ⟨b94, ?_⟩
            refine ⟨b94, ?_⟩
            refine ⟨b94, ?_⟩
            refine ⟨rfl, ?_⟩
            obtain ⟨t95, ht95, h⟩ := of_bind h
            refine ⟨t95, ⟨halterref02_signed.fun_ ht95, trivial⟩, ?_⟩
            refine ⟨trivial, ?_⟩
            obtain rfl := Option.some.inj h
            exact ⟨trivial, trivial, rfl, rfl⟩
      · rw [if_neg (beq_f b90)] at h
        refine ⟨b90, ?_⟩
        refine ⟨b90, ?_⟩
        refine ⟨rfl, ?_⟩
        refine ⟨b90, ?_⟩
        refine ⟨rfl, rfl, ?_⟩
        obtain ⟨t131, ht131, h⟩ := of_bind h
        refine ⟨t131, ⟨halterref02_Class.fun_ ht131, trivial⟩, ?_⟩
        refine ⟨trivial, ?_⟩
        refine ⟨fun b132 => ?_, fun b132 => ?_⟩
        · rw [if_neg (beq_f b132)] at h
          refine ⟨b132, ?_⟩
          obtain ⟨t134, ht134, h⟩ := of_bind h
          refine ⟨t134, ⟨halterref02_Class.fun_ ht134, trivial⟩, ?_⟩
          refine ⟨b132, ?_⟩
          refine ⟨trivial, ?_⟩
          refine ⟨b132, ?_⟩
          refine ⟨fun b135 => ?_, fun b135 => ?_⟩
          · rw [if_pos (beq_t b135)] at h
            obtain ⟨t136, ht136, h⟩ := of_bind h
            refine ⟨t136, ⟨halterref02_signed.fun_ ht136, trivial⟩, ?_⟩
            refine ⟨trivial, ?_⟩
            obtain rfl := Option.some.inj h
            exact ⟨trivial, trivial, rfl, rfl⟩
          · rw [if_neg (beq_f b135)] at h
            obtain ⟨t137, ht137, h⟩ := of_bind h
            refine ⟨t137, ⟨halterref02_Open.fun_ ht137, trivial⟩, ?_⟩
            obtain ⟨t138, ht138, h⟩ := of_bind h
            refine ⟨t138, ⟨halterref02_Open.fun_ ht138, trivial⟩, ?_⟩
            refine ⟨trivial, trivial, trivial, trivial, ?_⟩
            refine ⟨fun b139 => ?_, fun b139 => ?_⟩
            · rw [if_neg (beq_f b139)] at h
              refine ⟨b139, ?_⟩
              refine ⟨trivial, ?_⟩
              refine ⟨b139, ?_⟩
              refine ⟨trivial, ?_⟩
              refine ⟨b139, ?_⟩
              refine ⟨fun b141 => ?_, fun b141 => ?_⟩
              · rw [if_pos (beq_t b141)] at h
                obtain ⟨t142, ht142, h⟩ := of_bind h
                refine ⟨t142, ⟨halterref02_signed.fun_ ht142, trivial⟩, ?_⟩
                refine ⟨trivial, ?_⟩
                obtain rfl := Option.some.inj h
                exact ⟨trivial, ⟨trivial, trivial⟩, rfl, rfl⟩
              · rw [if_neg (beq_f b141)] at h
                refine ⟨trivial, trivial, ?_⟩
                obtain ⟨t149, ht149, h⟩ := of_bind h
                refine ⟨⟨trivial, trivial⟩, t149, Trip.loop FUEL (halterref02_Mul.l6_ok t1 t2 t137 t138 FUEL t137.2.1 t137.2.2.1 t149 ht149), ?_⟩
                refine ⟨trivial, ?_⟩
                obtain ⟨t161, ht161, h⟩ := of_bind h
                refine ⟨⟨trivial, trivial⟩, t161, Trip.loop FUEL (halterref02_Mul.l7_ok t1 t2 t137 t138 t149 FUEL t138.2.1 t138.2.2.1 t161 ht161), ?_⟩
                refine ⟨trivial, trivial, ?_⟩
                obtain ⟨t167, ht167, h⟩ := of_bind h
                refine ⟨t167, ⟨halterref02_Product.fun_ ht167, trivial⟩, ?_⟩
                refine ⟨trivial, ?_⟩
                refine ⟨(by decide), ?_⟩
                refine ⟨trivial, trivial, trivial, trivial, trivial, ?_⟩
                refine ⟨(by decide), ?_⟩
                refine ⟨trivial, ?_⟩
                obtain ⟨t168, ht168, h⟩ := of_bind h
                refine ⟨t168, ⟨halterref02_Round.fun_ ht168, trivial⟩, ?_⟩
                refine ⟨trivial, ?_⟩
                obtain rfl := Option.some.inj h
                exact ⟨trivial, ⟨trivial, trivial⟩, rfl, rfl⟩
            · rw [if_pos (beq_t b139)] at h
              refine ⟨b139, ?_⟩
              refine ⟨b139, ?_⟩
              refine ⟨b139, ?_⟩
              refine ⟨rfl, ?_⟩
              obtain ⟨t140, ht140, h⟩ := of_bind h
              refine ⟨t140, ⟨halterref02_signed.fun_ ht140, trivial⟩, ?_⟩
              refine ⟨trivial, ?_⟩
              obtain rfl := Option.some.inj h
              exact ⟨trivial, ⟨trivial, trivial⟩, rfl, rfl⟩
        · rw [if_pos (beq_t b132)] at h
          refine ⟨b132, ?_⟩
          refine ⟨b132, ?_⟩
          refine ⟨b132, ?_⟩
          refine ⟨rfl, ?_⟩
          obtain ⟨t133, ht133, h⟩ := of_bind h
          refine ⟨t133, ⟨halterref02_signed.fun_ ht133, trivial⟩, ?_⟩
          refine ⟨trivial, ?_⟩
          obtain rfl := Option.some.inj h
          exact ⟨trivial, trivial, rfl, rfl⟩
  · rw [if_pos b4] at h
    refine ⟨b4, ?_⟩
    refine ⟨b4, ?_⟩
    refine ⟨b4, ?_⟩
    refine ⟨b4, ?_⟩
    refine ⟨b4, ?_⟩
    refine ⟨rfl, rfl, rfl, rfl, rfl, rfl, rfl, trivial, trivial, ?_⟩
    obtain rfl := Option.some.inj h
    exact ⟨trivial, trivial, rfl, rfl⟩
/-! halter/halterref02.Div -/
def halterref02_Div.l0 (t1 : Bool) (t2 : Bool) (t25 : Bool × Int × Int × Bool) (t26 : Bool × Int × Int × Bool) : Nat → Int → Int → Option (Int × Int)
  | 0, _, _ => none
  | n + 1, x28, x29 =>
    if x28 < (4503599627370496 : Int) then
      halterref02_Div.l0 t1 t2 t25 t26 n (IntKind.wrap .u64 ((2 : Int) * x28)) (IntKind.wrap .i64 (x29 - (1 : Int)))
    else
      some (x28, x29)
def halterref02_Div.l0_S (t1 : Bool) (t2 : Bool) (t25 : Bool × Int × Int × Bool) (t26 : Bool × Int × Int × Bool) (x28 : Int) (x29 : Int) : St := ⟨[.any, .any, .any, .any, .any, .v (.one (.sc (.bool (!(t1 == t2))))), .v (.one (.ptr 0 ⟨0, 0, 0, 0⟩)), .v (.one (.ptr 1 ⟨0, 0, 0, 0⟩)), .any, .any, .any, .any, .any, .any, .any, .any, .any, .any, .any, .any, .any, .any, .any, .any, .any, .any, .any, .any, .any, .any, .any, .any, .any, .any, .any, .any, .any, .any, .any, .any, .any, .any, .any, .any, .any, .any, .any, .any, .any, .any, .any, .any, .any, .any, .any, .any, .any, .any, .any, .any, .any, .any, .any, .any, .any, .any, .any, .any, .any, .any, .any, .any, .any, .any, .any, .any, .any, .any, .any, .any, .any, .any, .any, .any, .any, .any, .any, .any, .any, .any, .any, .any, .any, .any, .any, .any, .any, .any, .any, .any, .any, .any, .any, .any, .any, .any, .any, .any, .any, .any, .any, .any, .any, .any, .any, .any, .any, .any, .any, .any, .any, .any, .any, .any], [.ex false [.c (.sc (.bool t25.1)), .c (.sc (.int .u64 x28)), .c (.sc (.int .i64 x29)), .c (.sc (.bool t25.2.2.2))] 93, .ex false [.c (.sc (.bool t26.1)), .c (.sc (.int .u64 t26.2.1)), .c (.sc (.int .i64 t26.2.2.1)), .c (.sc (.bool t26.2.2.2))] 93], 0⟩
def halterref02_Div.l0_Q (t1 : Bool) (t2 : Bool) (t25 : Bool × Int × Int × Bool) (t26 : Bool × Int × Int × Bool) (t : Int × Int) : Exit → St → Prop := fun e s => e = (.exit 0) ∧ s = ⟨[.any, .any, .any, .any, .any, .v (.one (.sc (.bool (!(t1 == t2))))), .v (.one (.ptr 0 ⟨0, 0, 0, 0⟩)), .v (.one (.ptr 1 ⟨0, 0, 0, 0⟩)), .any, .any, .any, .any, .any, .any, .any, .any, .any, .any, .any, .any, .any, .any, .any, .any, .any, .any, .any, .any, .any, .any, .any, .any, .any, .any, .any, .any, .any, .any, .any, .any, .any, .any, .any, .any, .any, .any, .any, .any, .any, .any, .any, .any, .any, .any, .any, .any, .any, .any, .any, .any, .any, .any, .any, .any, .any, .any, .any, .any, .any, .any, .any, .any, .any, .any, .any, .any, .any, .any, .any, .any, .any, .any, .any, .any, .any, .any, .any, .any, .any, .any, .any, .any, .any, .any, .any, .any, .any, .any, .any, .any, .any, .any, .any, .any, .any, .any, .any, .any, .any, .any, .any, .any, .any, .any, .any, .any, .any, .any, .any, .any, .any, .any, .any, .any], [.ex false [.c (.sc (.bool t25.1)), .c (.sc (.int .u64 t.1)), .c (.sc (.int .i64 t.2)), .c (.sc (.bool t25.2.2.2))] 93, .ex false [.c (.sc (.bool t26.1)), .c (.sc (.int .u64 t26.2.1)), .c (.sc (.int .i64 t26.2.2.1)), .c (.sc (.bool t26.2.2.2))] 93], 0⟩
theorem halterref02_Div.l0_ok (t1 : Bool) (t2 : Bool) (t25 : Bool × Int × Int × Bool) (t26 : Bool × Int × Int × Bool) : ∀ (n : Nat) (x28 : Int) (x29 : Int) (r : Int × Int), halterref02_Div.l0 t1 t2 t25 t26 n x28 x29 = some r → TripN cfg (cpath (Tryd.f39.body.getD .skip) [1, 1, 1, 1, 1, 1, 0, 0, 0]) n (halterref02_Div.l0_S t1 t2 t25 t26 x28 x29) (halterref02_Div.l0_Q t1 t2 t25 t26 r) := by
  intro n
  induction n with
  | zero => intro x28 x29 r h; cases h
  | succ n ih =>
    intro x28 x29 r h
    rw [halterref02_Div.l0] at h
    refine TripN.of_run cfg_ok (k := (.br (aE 3 (.adj [.keep [5, 6, 7], .drop 2] .nil)) (.adj [.keep [5, 6, 7], .drop 2] .nil))) (to_goal (q := (True) ∧ (True) ∧ (((decide (x28 < (4503599627370496 : Int))) = true → (True ∧ (True ∧ (True ∧ (True) ∧ (True) ∧ (True) ∧ (True) ∧ (True) ∧ (True) ∧ (((True) ∧ (True) ∧ True) ∧ TripN cfg (cpath (Tryd.f39.body.getD .skip) [1, 1, 1, 1, 1, 1, 0, 0, 0]) n (halterref02_Div.l0_S t1 t2 t25 t26 (IntKind.wrap .u64 ((2 : Int) * x28)) (IntKind.wrap .i64 (x29 - (1 : Int)))) (halterref02_Div.l0_Q t1 t2 t25 t26 r)))))) ∧ ((decide (x28 < (4503599627370496 : Int))) = false → (((True) ∧ (True) ∧ True) ∧ halterref02_Div.l0_Q t1 t2 t25 t26 r (.exit 0) ⟨[.any, .any, .any, .any, .any, .v (.one (.sc (.bool (!(t1 == t2))))), .v (.one (.ptr 0 ⟨0, 0, 0, 0⟩)), .v (.one (.ptr 1 ⟨0, 0, 0, 0⟩)), .any, .any, .any, .any, .any, .any, .any, .any, .any, .any, .any, .any, .any, .any, .any, .any, .any, .any, .any, .any, .any, .any, .any, .any, .any, .any, .any, .any, .any, .any, .any, .any, .any, .any, .any, .any, .any, .any, .any, .any, .any, .any, .any, .any, .any, .any, .any, .any, .any, .any, .any, .any, .any, .any, .any, .any, .any, .any, .any, .any, .any, .any, .any, .any, .any, .any, .any, .any, .any, .any, .any, .any, .any, .any, .any, .any, .any, .any, .any, .any, .any, .any, .any, .any, .any, .any, .any, .any, .any, .any, .any, .any, .any, .any, .any, .any, .any, .any, .any, .any, .any, .any, .any, .any, .any, .any, .any, .any, .any, .any, .any, .any, .any, .any, .any, .any], [.ex false [.c (.sc (.bool t25.1)), .c (.sc (.int .u64 x28)), .c (.sc (.int .i64 x29)), .c (.sc (.bool (z3 t25)))] 93, .ex false [.c (.sc (.bool t26.1)), .c (.sc (.int .u64 t26.2.1)), .c (.sc (.int .i64 (p2 t26))), .c (.sc (.bool (z3 t26)))] 93], 0⟩)))) (by kernel_rfl) ?_)
    refine ⟨trivial, trivial, ?_⟩
    refine ⟨fun b34 => ?_, fun b34 => ?_⟩
    · rw [if_pos (of_decide_eq_true b34)] at h
      refine ⟨trivial, trivial, trivial, trivial, trivial, trivial, trivial, trivial, trivial, ?_⟩
      exact ⟨⟨trivial, trivial, trivial⟩, ih (IntKind.wrap .u64 ((2 : Int) * x28)) (IntKind.wrap .i64 (x29 - (1 : Int))) r h⟩
    · rw [if_neg (of_decide_eq_false b34)] at h
      obtain rfl := Option.some.inj h
      exact ⟨⟨trivial, trivial, trivial⟩, rfl, rfl⟩
def halterref02_Div.l1 (t1 : Bool) (t2 : Bool) (t25 : Bool × Int × Int × Bool) (t26 : Bool × Int × Int × Bool) (t33 : Int × Int) : Nat → Int → Int → Option (Int × Int)
  | 0, _, _ => none
  | n + 1, x40, x41 =>
    if x40 < (4503599627370496 : Int) then
      halterref02_Div.l1 t1 t2 t25 t26 t33 n (IntKind.wrap .u64 ((2 : Int) * x40)) (IntKind.wrap .i64 (x41 - (1 : Int)))
    else
      some (x40, x41)
def halterref02_Div.l1_S (t1 : Bool) (t2 : Bool) (t25 : Bool × Int × Int × Bool) (t26 : Bool × Int × Int × Bool) (t33 : Int × Int) (x40 : Int) (x41 : Int) : St := ⟨[.any, .any, .any, .any, .any, .v (.one (.sc (.bool (!(t1 == t2))))), .v (.one (.ptr 0 ⟨0, 0, 0, 0⟩)), .v (.one (.ptr 1 ⟨0, 0, 0, 0⟩)), .any, .any, .any, .any, .any, .any, .any, .any, .any, .any, .any, .any, .any, .any, .any, .any, .any, .any, .any, .any, .any, .any, .any, .any, .any, .any, .any, .any, .any, .any, .any, .any, .any, .any, .any, .any, .any, .any, .any, .any, .any, .any, .any, .any, .any, .any, .any, .any, .any, .any, .any, .any, .any, .any, .any, .any, .any, .any, .any, .any, .any, .any, .any, .any, .any, .any, .any, .any, .any, .any, .any, .any, .any, .any, .any, .any, .any, .any, .any, .any, .any, .any, .any, .any, .any, .any, .any, .any, .any, .any, .any, .any, .any, .any, .any, .any, .any, .any, .any, .any, .any, .any, .any, .any, .any, .any, .any, .any, .any, .any, .any, .any, .any, .any, .any, .any], [.ex false [.c (.sc (.bool t25.1)), .c (.sc (.int .u64 t33.1)), .c (.sc (.int .i64 t33.2)), .c (.sc (.bool t25.2.2.2))] 93, .ex false [.c (.sc (.bool t26.1)), .c (.sc (.int .u64 x40)), .c (.sc (.int .i64 x41)), .c (.sc (.bool t26.2.2.2))] 93], 0⟩
def halterref02_Div.l1_Q (t1 : Bool) (t2 : Bool) (t25 : Bool × Int × Int × Bool) (t26 : Bool × Int × Int × Bool) (t33 : Int × Int) (t : Int × Int) : Exit → St → Prop := fun e s => e = (.exit 2) ∧ s = ⟨[.any, .any, .any, .any, .any, .v (.one (.sc (.bool (!(t1 == t2))))), .v (.one (.ptr 0 ⟨0, 0, 0, 0⟩)), .v (.one (.ptr 1 ⟨0, 0, 0, 0⟩)), .any, .any, .any, .any, .any, .any, .any, .any, .any, .any, .any, .any, .any, .any, .any, .any, .any, .any, .any, .any, .any, .any, .any, .any, .any, .any, .any, .any, .any, .any, .any, .any, .any, .any, .any, .any, .any, .any, .any, .any, .any, .any, .any, .any, .any, .any, .any, .any, .any, .any, .any, .any, .any, .any, .any, .any, .any, .any, .any, .any, .any, .any, .any, .any, .any, .any, .any, .any, .any, .any, .any, .any, .any, .any, .any, .any, .any, .any, .any, .any, .any, .any, .any, .any, .any, .any, .any, .any, .any, .any, .any, .any, .any, .any, .any, .any, .any, .any, .any, .any, .any, .any, .any, .any, .any, .any, .any, .any, .any, .any, .any, .any, .any, .any, .any, .any], [.ex false [.c (.sc (.bool t25.1)), .c (.sc (.int .u64 t33.1)), .c (.sc (.int .i64 t33.2)), .c (.sc (.bool t25.2.2.2))] 93, .ex false [.c (.sc (.bool t26.1)), .c (.sc (.int .u64 t.1)), .c (.sc (.int .i64 t.2)), .c (.sc (.bool t26.2.2.2))] 93], 0⟩
theorem halterref02_Div.l1_ok (t1 : Bool) (t2 : Bool) (t25 : Bool × Int × Int × Bool) (t26 : Bool × Int × Int × Bool) (t33 : Int × Int) : ∀ (n : Nat) (x40 : Int) (x41 : Int) (r : Int × Int), halterref02_Div.l1 t1 t2 t25 t26 t33 n x40 x41 = some r → TripN cfg (cpath (Tryd.f39.body.getD .skip) [1, 1, 1, 1, 1, 1, 1, 0, 0, 0]) n (halterref02_Div.l1_S t1 t2 t25 t26 t33 x40 x41) (halterref02_Div.l1_Q t1 t2 t25 t26 t33 r) := by
  intro n
  induction n with
  | zero => intro x40 x41 r h; cases h
  | succ n ih =>
    intro x40 x41 r h
    rw [halterref02_Div.l1] at h
    refine TripN.of_run cfg_ok (k := (.br (aE 3 (.adj [.keep [5, 6, 7], .drop 2] .nil)) (.adj [.keep [5, 6, 7], .drop 2] .nil))) (to_goal (q := (True) ∧ (True) ∧ (((decide (x40 < (4503599627370496 : Int))) = true → (True ∧ (True ∧ (True ∧ (True) ∧ (True) ∧ (True) ∧ (True) ∧ (True) ∧ (True) ∧ (((True) ∧ (True) ∧ True) ∧ TripN cfg (cpath (Tryd.f39.body.getD .skip) [1, 1, 1, 1, 1, 1, 1, 0, 0, 0]) n (halterref02_Div.l1_S t1 t2 t25 t26 t33 (IntKind.wrap .u64 ((2 : Int) * x40)) (IntKind.wrap .i64 (x41 - (1 : Int)))) (halterref02_Div.l1_Q t1 t2 t25 t26 t33 r)))))) ∧ ((decide (x40 < (4503599627370496 : Int))) = false → (((True) ∧ (True) ∧ True) ∧ halterref02_Div.l1_Q t1 t2 t25 t26 t33 r (.exit 2) ⟨[.any, .any, .any, .any, .any, .v (.one (.sc (.bool (!(t1 == t2))))), .v (.one (.ptr 0 ⟨0, 0, 0, 0⟩)), .v (.one (.ptr 1 ⟨0, 0, 0, 0⟩)), .any, .any, .any, .any, .any, .any, .any, .any, .any, .any, .any, .any, .any, .any, .any, .any, .any, .any, .any, .any, .any, .any, .any, .any, .any, .any, .any, .any, .any, .any, .any, .any, .any, .any, .any, .any, .any, .any, .any, .any, .any, .any, .any, .any, .any, .any, .any, .any, .any, .any, .any, .any, .any, .any, .any, .any, .any, .any, .any, .any, .any, .any, .any, .any, .any, .any, .any, .any, .any, .any, .any, .any, .any, .any, .any, .any, .any, .any, .any, .any, .any, .any, .any, .any, .any, .any, .any, .any, .any, .any, .any, .any, .any, .any, .any, .any, .any, .any, .any, .any, .any, .any, .any, .any, .any, .any, .any, .any, .any, .any, .any, .any, .any, .any, .any, .any], [.ex false [.c (.sc (.bool t25.1)), .c (.sc (.int .u64 t33.1)), .c (.sc (.int .i64 t33.2)), .c (.sc (.bool (z3 t25)))] 93, .ex false [.c (.sc (.bool t26.1)), .c (.sc (.int .u64 x40)), .c (.sc (.int .i64 x41)), .c (.sc (.bool (z3 t26)))] 93], 0⟩)))) (by kernel_rfl) ?_)
    refine ⟨trivial, trivial, ?_⟩
    refine ⟨fun b46 => ?_, fun b46 => ?_⟩
    · rw [if_pos (of_decide_eq_true b46)] at h
      refine ⟨trivial, trivial, trivial, trivial, trivial, trivial, trivial, trivial, trivial, ?_⟩
      exact ⟨⟨trivial, trivial, trivial⟩, ih (IntKind.wrap .u64 ((2 : Int) * x40)) (IntKind.wrap .i64 (x41 - (1 : Int))) r h⟩
    · rw [if_neg (of_decide_eq_false b46)] at h
      obtain rfl := Option.some.inj h
      exact ⟨⟨trivial, trivial, trivial⟩, rfl, rfl⟩
def halterref02_Div.l2 (t1 : Bool) (t2 : Bool) (t25 : Bool × Int × Int × Bool) (t26 : Bool × Int × Int × Bool) (t33 : Int × Int) (t45 : Int × Int) : Nat → Int → Int → Int → Option (Int × Int)
  | 0, _, _, _ => none
  | n + 1, x53, x54, x55 =>
    if x55 < (60 : Int) then
      if t45.1 ≠ 0 then
        if t45.1 ≠ 0 then
          halterref02_Div.l2 t1 t2 t25 t26 t33 t45 n (IntKind.wrap .u64 ((IntKind.wrap .u64 ((2 : Int) * x53)) + (IntKind.wrap .u64 (Int.tdiv (IntKind.wrap .u64 ((2 : Int) * x54)) t45.1)))) (Int.tmod (IntKind.wrap .u64 ((2 : Int) * x54)) t45.1) (IntKind.wrap .i64 (x55 + (1 : Int)))
        else none
      else none
    else
      some (x53, x54)
def halterref02_Div.l2_S (t1 : Bool) (t2 : Bool) (t25 : Bool × Int × Int × Bool) (t26 : Bool × Int × Int × Bool) (t33 : Int × Int) (t45 : Int × Int) (x53 : Int) (x54 : Int) (x55 : Int) : St := ⟨[.any, .any, .any, .any, .any, .v (.one (.sc (.bool (!(t1 == t2))))), .v (.one (.ptr 0 ⟨0, 0, 0, 0⟩)), .v (.one (.ptr 1 ⟨0, 0, 0, 0⟩)), .v (.one (.sc (.int .u64 x53))), .v (.one (.sc (.int .u64 x54))), .v (.one (.sc (.int .i64 x55))), .any, .any, .any, .any, .any, .any, .any, .any, .any, .any, .any, .any, .any, .any, .any, .any, .any, .any, .any, .any, .any, .any, .any, .any, .any, .any, .any, .any, .any, .any, .any, .any, .any, .any, .any, .any, .any, .any, .any, .any, .any, .any, .any, .any, .any, .any, .any, .any, .any, .any, .any, .any, .any, .any, .any, .any, .any, .any, .any, .any, .any, .any, .any, .any, .any, .any, .any, .any, .any, .any, .any, .any, .any, .any, .any, .any, .any, .any, .any, .any, .any, .any, .any, .any, .any, .any, .any, .any, .any, .any, .any, .any, .any, .any, .any, .any, .any, .any, .any, .any, .any, .any, .any, .any, .any, .any, .any, .any, .any, .any, .any, .any, .any], [.ex false [.c (.sc (.bool t25.1)), .c (.sc (.int .u64 t33.1)), .c (.sc (.int .i64 t33.2)), .c (.sc (.bool t25.2.2.2))] 93, .ex false [.c (.sc (.bool t26.1)), .c (.sc (.int .u64 t45.1)), .c (.sc (.int .i64 t45.2)), .c (.sc (.bool t26.2.2.2))] 93], 0⟩
def halterref02_Div.l2_Q (t1 : Bool) (t2 : Bool) (t25 : Bool × Int × Int × Bool) (t26 : Bool × Int × Int × Bool) (t33 : Int × Int) (t45 : Int × Int) (t : Int × Int) : Exit → St → Prop := fun e s => e = (.exit 4) ∧ s = ⟨[.any, .any, .any, .any, .any, .v (.one (.sc (.bool (!(t1 == t2))))), .v (.one (.ptr 0 ⟨0, 0, 0, 0⟩)), .v (.one (.ptr 1 ⟨0, 0, 0, 0⟩)), .v (.one (.sc (.int .u64 t.1))), .v (.one (.sc (.int .u64 t.2))), .any, .any, .any, .any, .any, .any, .any, .any, .any, .any, .any, .any, .any, .any, .any, .any, .any, .any, .any, .any, .any, .any, .any, .any, .any, .any, .any, .any, .any, .any, .any, .any, .any, .any, .any, .any, .any, .any, .any, .any, .any, .any, .any, .any, .any, .any, .any, .any, .any, .any, .any, .any, .any, .any, .any, .any, .any, .any, .any, .any, .any, .any, .any, .any, .any, .any, .any, .any, .any, .any, .any, .any, .any, .any, .any, .any, .any, .any, .any, .any, .any, .any, .any, .any, .any, .any, .any, .any, .any, .any, .any, .any, .any, .any, .any, .any, .any, .any, .any, .any, .any, .any, .any, .any, .any, .any, .any, .any, .any, .any, .any, .any, .any, .any], [.ex false [.c (.sc (.bool t25.1)), .c (.sc (.int .u64 t33.1)), .c (.sc (.int .i64 t33.2)), .c (.sc (.bool t25.2.2.2))] 93, .ex false [.c (.sc (.bool t26.1)), .c (.sc (.int .u64 t45.1)), .c (.sc (.int .i64 t45.2)), .c (.sc (.bool t26.2.2.2))] 93], 0⟩
theorem halterref02_Div.l2_ok (t1 : Bool) (t2 : Bool) (t25 : Bool × Int × Int × Bool) (t26 : Bool × Int × Int × Bool) (t33 : Int × Int) (t45 : Int × Int) : ∀ (n : Nat) (x53 : Int) (x54 : Int) (x55 : Int) (r : Int × Int), halterref02_Div.l2 t1 t2 t25 t26 t33 t45 n x53 x54 x55 = some r → TripN cfg (cpath (Tryd.f39.body.getD .skip) [1, 1, 1, 1, 1, 1, 1, 1, 1, 0, 1, 0, 0]) n (halterref02_Div.l2_S t1 t2 t25 t26 t33 t45 x53 x54 x55) (halterref02_Div.l2_Q t1 t2 t25 t26 t33 t45 r) := by
  intro n
  induction n with
  | zero => intro x53 x54 x55 r h; cases h
  | succ n ih =>
    intro x53 x54 x55 r h
    rw [halterref02_Div.l2] at h
    refine TripN.of_run cfg_ok (k := (.br (aE 6 (.adj [.keep [5, 6, 7, 8, 9, 10], .drop 2] .nil)) (.adj [.keep [5, 6, 7, 8, 9], .drop 2] .nil))) (to_goal (q := (True) ∧ (((decide (x55 < (60 : Int))) = true → (True ∧ (True ∧ (True ∧ (True) ∧ (True ∧ (True) ∧ (True) ∧ (t45.1 ≠ 0) ∧ (True) ∧ (True ∧ (True) ∧ (t45.1 ≠ 0) ∧ (True ∧ (True) ∧ (((True) ∧ (True) ∧ True) ∧ TripN cfg (cpath (Tryd.f39.body.getD .skip) [1, 1, 1, 1, 1, 1, 1, 1, 1, 0, 1, 0, 0]) n (halterref02_Div.l2_S t1 t2 t25 t26 t33 t45 (IntKind.wrap .u64 ((IntKind.wrap .u64 ((2 : Int) * x53)) + (IntKind.wrap .u64 (Int.tdiv (IntKind.wrap .u64 ((2 : Int) * x54)) t45.1)))) (Int.tmod (IntKind.wrap .u64 ((2 : Int) * x54)) t45.1) (IntKind.wrap .i64 (x55 + (1 : Int)))) (halterref02_Div.l2_Q t1 t2 t25 t26 t33 t45 r))))))))) ∧ ((decide (x55 < (60 : Int))) = false → (((True) ∧ (True) ∧ True) ∧ halterref02_Div.l2_Q t1 t2 t25 t26 t33 t45 r (.exit 4) ⟨[.any, .any, .any, .any, .any, .v (.one (.sc (.bool (!(t1 == t2))))), .v (.one (.ptr 0 ⟨0, 0, 0, 0⟩)), .v (.one (.ptr 1 ⟨0, 0, 0, 0⟩)), .v (.one (.sc (.int .u64 x53))), .v (.one (.sc (.int .u64 x54))), .any, .any, .any, .any, .any, .any, .any, .any, .any, .any, .any, .any, .any, .any, .any, .any, .any, .any, .any, .any, .any, .any, .any, .any, .any, .any, .any, .any, .any, .any, .any, .any, .any, .any, .any, .any, .any, .any, .any, .any, .any, .any, .any, .any, .any, .any, .any, .any, .any, .any, .any, .any, .any, .any, .any, .any, .any, .any, .any, .any, .any, .any, .any, .any, .any, .any, .any, .any, .any, .any, .any, .any, .any, .any, .any, .any, .any, .any, .any, .any, .any, .any, .any, .any, .any, .any, .any, .any, .any, .any, .any, .any, .any, .any, .any, .any, .any, .any, .any, .any, .any, .any, .any, .any, .any, .any, .any, .any, .any, .any, .any, .any, .any, .any], [.ex false [.c (.sc (.bool t25.1)), .c (.sc (.int .u64 t33.1)), .c (.sc (.int .i64 t33.2)), .c (.sc (.bool (z3 t25)))] 93, .ex false [.c (.sc (.bool t26.1)), .c (.sc (.int .u64 t45.1)), .c (.sc (.int .i64 t45.2)), .c (.sc (.bool (z3 t26)))] 93], 0⟩)))) (by kernel_rfl) ?_)
    refine ⟨trivial, ?_⟩
    refine ⟨fun b62 => ?_, fun b62 => ?_⟩
    · rw [if_pos (of_decide_eq_true b62)] at h
      refine ⟨trivial, trivial, trivial, trivial, trivial, trivial, trivial, ?_⟩
      obtain ⟨g64, h⟩ := of_guard h
      refine ⟨g64, ?_⟩
      refine ⟨trivial, trivial, trivial, ?_⟩
      obtain ⟨g63, h⟩ := of_guard h
      refine ⟨g63, ?_⟩
      refine ⟨trivial, trivial, ?_⟩
      exact ⟨⟨trivial, trivial, trivial⟩, ih (IntKind.wrap .u64 ((IntKind.wrap .u64 ((2 : Int) * x53)) + (IntKind.wrap .u64 (Int.tdiv (IntKind.wrap .u64 ((2 : Int) * x54)) t45.1)))) (Int.tmod (IntKind.wrap .u64 ((2 : Int) * x54)) t45.1) (IntKind.wrap .i64 (x55 + (1 : Int))) r h⟩
    · rw [if_neg (of_decide_eq_false b62)] at h
      obtain rfl := Option.some.inj h
      exact ⟨⟨trivial, trivial, trivial⟩, rfl, rfl⟩
def halterref02_Div.l3 (t1 : Bool) (t2 : Bool) (t82 : Bool × Int × Int × Bool) (t83 : Bool × Int × Int × Bool) : Nat → Int → Int → Option (Int × Int)
  | 0, _, _ => none
  | n + 1, x85, x86 =>
    if x85 < (4503599627370496 : Int) then
      halterref02_Div.l3 t1 t2 t82 t83 n (IntKind.wrap .u64 ((2 : Int) * x85)) (IntKind.wrap .i64 (x86 - (1 : Int)))
    else
      some (x85, x86)
def halterref02_Div.l3_S (t1 : Bool) (t2 : Bool) (t82 : Bool × Int × Int × Bool) (t83 : Bool × Int × Int × Bool) (x85 : Int) (x86 : Int) : St := ⟨[.any, .any, .any, .any, .any, .v (.one (.sc (.bool (!(t1 == t2))))), .v (.one (.ptr 0 ⟨0, 0, 0, 0⟩)), .v (.one (.ptr 1 ⟨0, 0, 0, 0⟩)), .any, .any, .any, .any, .any, .any, .any, .any, .any, .any, .any, .any, .any, .any, .any, .any, .any, .any, .any, .any, .any, .any, .any, .any, .any, .any, .any, .any, .any, .any, .any, .any, .any, .any, .any, .any, .any, .any, .any, .any, .any, .any, .any, .any, .any, .any, .any, .any, .any, .any, .any, .any, .any, .any, .any, .any, .any, .any, .any, .any, .any, .any, .any, .any, .any, .any, .any, .any, .any, .any, .any, .any, .any, .any, .any, .any, .any, .any, .any, .any, .any, .any, .any, .any, .any, .any, .any, .any, .any, .any, .any, .any, .any, .any, .any, .any, .any, .any, .any, .any, .any, .any, .any, .any, .any, .any, .any, .any, .any, .any, .any, .any, .any, .any, .any, .any], [.ex false [.c (.sc (.bool t82.1)), .c (.sc (.int .u64 x85)), .c (.sc (.int .i64 x86)), .c (.sc (.bool t82.2.2.2))] 93, .ex false [.c (.sc (.bool t83.1)), .c (.sc (.int .u64 t83.2.1)), .c (.sc (.int .i64 t83.2.2.1)), .c (.sc (.bool t83.2.2.2))] 93], 0⟩
def halterref02_Div.l3_Q (t1 : Bool) (t2 : Bool) (t82 : Bool × Int × Int × Bool) (t83 : Bool × Int × Int × Bool) (t : Int × Int) : Exit → St → Prop := fun e s => e = (.exit 0) ∧ s = ⟨[.any, .any, .any, .any, .any, .v (.one (.sc (.bool (!(t1 == t2))))), .v (.one (.ptr 0 ⟨0, 0, 0, 0⟩)), .v (.one (.ptr 1 ⟨0, 0, 0, 0⟩)), .any, .any, .any, .any, .any, .any, .any, .any, .any, .any, .any, .any, .any, .any, .any, .any, .any, .any, .any, .any, .any, .any, .any, .any, .any, .any, .any, .any, .any, .any, .any, .any, .any, .any, .any, .any, .any, .any, .any, .any, .any, .any, .any, .any, .any, .any, .any, .any, .any, .any, .any, .any, .any, .any, .any, .any, .any, .any, .any, .any, .any, .any, .any, .any, .any, .any, .any, .any, .any, .any, .any, .any, .any, .any, .any, .any, .any, .any, .any, .any, .any, .any, .any, .any, .any, .any, .any, .any, .any, .any, .any, .any, .any, .any, .any, .any, .any, .any, .any, .any, .any, .any, .any, .any, .any, .any, .any, .any, .any, .any, .any, .any, .any, .any, .any, .any], [.ex false [.c (.sc (.bool t82.1)), .c (.sc (.int .u64 t.1)), .c (.sc (.int .i64 t.2)), .c (.sc (.bool t82.2.2.2))] 93, .ex false [.c (.sc (.bool t83.1)), .c (.sc (.int .u64 t83.2.1)), .c (.sc (.int .i64 t83.2.2.1)), .c (.sc (.bool t83.2.2.2))] 93], 0⟩
theorem halterref02_Div.l3_ok (t1 : Bool) (t2 : Bool) (t82 : Bool × Int × Int × Bool) (t83 : Bool × Int × Int × Bool) : ∀ (n : Nat) (x85 : Int) (x86 : Int) (r : Int × Int), halterref02_Div.l3 t1 t2 t82 t83 n x85 x86 = some r → TripN cfg (cpath (Tryd.f39.body.getD .skip) [1, 1, 1, 1, 1, 1, 0, 0, 0]) n (halterref02_Div.l3_S t1 t2 t82 t83 x85 x86) (halterref02_Div.l3_Q t1 t2 t82 t83 r) := by
  intro n
  induction n with
  | zero => intro x85 x86 r h; cases h
  | succ n ih =>
    intro x85 x86 r h
    rw [halterref02_Div.l3] at h
    refine TripN.of_run cfg_ok (k := (.br (aE 3 (.adj [.keep [5, 6, 7], .drop 2] .nil)) (.adj [.keep [5, 6, 7], .drop 2] .nil))) (to_goal (q := (True) ∧ (True) ∧ (((decide (x85 < (4503599627370496 : Int))) = true → (True ∧ (True ∧ (True ∧ (True) ∧ (True) ∧ (True) ∧ (True) ∧ (True) ∧ (True) ∧ (((True) ∧ (True) ∧ True) ∧ TripN cfg (cpath (Tryd.f39.body.getD .skip) [1, 1, 1, 1, 1, 1, 0, 0, 0]) n (halterref02_Div.l3_S t1 t2 t82 t83 (IntKind.wrap .u64 ((2 : Int) * x85)) (IntKind.wrap .i64 (x86 - (1 : Int)))) (halterref02_Div.l3_Q t1 t2 t82 t83 r)))))) ∧ ((decide (x85 < (4503599627370496 : Int))) = false → (((True) ∧ (True) ∧ True) ∧ halterref02_Div.l3_Q t1 t2 t82 t83 r (.exit 0) ⟨[.any, .any, .any, .any, .any, .v (.one (.sc (.bool (!(t1 == t2))))), .v (.one (.ptr 0 ⟨0, 0, 0, 0⟩)), .v (.one (.ptr 1 ⟨0, 0, 0, 0⟩)), .any, .any, .any, .any, .any, .any, .any, .any, .any, .any, .any, .any, .any, .any, .any, .any, .any, .any, .any, .any, .any, .any, .any, .any, .any, .any, .any, .any, .any, .any, .any, .any, .any, .any, .any, .any, .any, .any, .any, .any, .any, .any, .any, .any, .any, .any, .any, .any, .any, .any, .any, .any, .any, .any, .any, .any, .any, .any, .any, .any, .any, .any, .any, .any, .any, .any, .any, .any, .any, .any, .any, .any, .any, .any, .any, .any, .any, .any, .any, .any, .any, .any, .any, .any, .any, .any, .any, .any, .any, .any, .any, .any, .any, .any, .any, .any, .any, .any, .any, .any, .any, .any, .any, .any, .any, .any, .any, .any, .any, .any, .any, .any, .any, .any, .any, .any], [.ex false [.c (.sc (.bool t82.1)), .c (.sc (.int .u64 x85)), .c (.sc (.int .i64 x86)), .c (.sc (.bool (z3 t82)))] 93, .ex false [.c (.sc (.bool t83.1)), .c (.sc (.int .u64 t83.2.1)), .c (.sc (.int .i64 (p2 t83))), .c (.sc (.bool (z3 t83)))] 93], 0⟩)))) (by kernel_rfl) ?_)
    refine ⟨trivial, trivial, ?_⟩
    refine ⟨fun b91 => ?_, fun b91 => ?_⟩
    · rw [if_pos (of_decide_eq_true b91)] at h
      refine ⟨trivial, trivial, trivial, trivial, trivial, trivial, trivial, trivial, trivial, ?_⟩
      exact ⟨⟨trivial, trivial, trivial⟩, ih (IntKind.wrap .u64 ((2 : Int) * x85)) (IntKind.wrap .i64 (x86 - (1 : Int))) r h⟩
    · rw [if_neg (of_decide_eq_false b91)] at h
      obtain rfl := Option.some.inj h
      exact ⟨⟨trivial, trivial, trivial⟩, rfl, rfl⟩
def halterref02_Div.l4 (t1 : Bool) (t2 : Bool) (t82 : Bool × Int × Int × Bool) (t83 : Bool × Int × Int × Bool) (t90 : Int × Int) : Nat → Int → Int → Option (Int × Int)
  | 0, _, _ => none
  | n + 1, x97, x98 =>
    if x97 < (4503599627370496 : Int) then
      halterref02_Div.l4 t1 t2 t82 t83 t90 n (IntKind.wrap .u64 ((2 : Int) * x97)) (IntKind.wrap .i64 (x98 - (1 : Int)))
    else
      some (x97, x98)
def halterref02_Div.l4_S (t1 : Bool) (t2 : Bool) (t82 : Bool × Int × Int × Bool) (t83 : Bool × Int × Int × Bool) (t90 : Int × Int) (x97 : Int) (x98 : Int) : St := ⟨[.any, .any, .any, .any, .any, .v (.one (.sc (.bool (!(t1 == t2))))), .v (.one (.ptr 0 ⟨0, 0, 0, 0⟩)), .v (.one (.ptr 1 ⟨0, 0, 0, 0⟩)), .any, .any, .any, .any, .any, .any, .any, .any, .any, .any, .any, .any, .any, .any, .any, .any, .any, .any, .any, .any, .any, .any, .any, .any, .any, .any, .any, .any, .any, .any, .any, .any, .any, .any, .any, .any, .any, .any, .any, .any, .any, .any, .any, .any, .any, .any, .any, .any, .any, .any, .any, .any, .any, .any, .any, .any, .any, .any, .any, .any, .any, .any, .any, .any, .any, .any, .any, .any, .any, .any, .any, .any, .any, .any, .any, .any, .any, .any, .any, .any, .any, .any, .any, .any, .any, .any, .any, .any, .any, .any, .any, .any, .any, .any, .any, .any, .any, .any, .any, .any, .any, .any, .any, .any, .any, .any, .any, .any, .any, .any, .any, .any, .any, .any, .any, .any], [.ex false [.c (.sc (.bool t82.1)), .c (.sc (.int .u64 t90.1)), .c (.sc (.int .i64 t90.2)), .c (.sc (.bool t82.2.2.2))] 93, .ex false [.c (.sc (.bool t83.1)), .c (.sc (.int .u64 x97)), .c (.sc (.int .i64 x98)), .c (.sc (.bool t83.2.2.2))] 93], 0⟩
def halterref02_Div.l4_Q (t1 : Bool) (t2 : Bool) (t82 : Bool × Int × Int × Bool) (t83 : Bool × Int × Int × Bool) (t90 : Int × Int) (t : Int × Int) : Exit → St → Prop := fun e s => e = (.exit 2) ∧ s = ⟨[.any, .any, .any, .any, .any, .v (.one (.sc (.bool (!(t1 == t2))))), .v (.one (.ptr 0 ⟨0, 0, 0, 0⟩)), .v (.one (.ptr 1 ⟨0, 0, 0, 0⟩)), .any, .any, .any, .any, .any, .any, .any, .any, .any, .any, .any, .any, .any, .any, .any, .any, .any, .any, .any, .any, .any, .any, .any, .any, .any, .any, .any, .any, .any, .any, .any, .any, .any, .any, .any, .any, .any, .any, .any, .any, .any, .any, .any, .any, .any, .any, .any, .any, .any, .any, .any, .any, .any, .any, .any, .any, .any, .any, .any, .any, .any, .any, .any, .any, .any, .any, .any, .any, .any, .any, .any, .any, .any, .any, .any, .any, .any, .any, .any, .any, .any, .any, .any, .any, .any, .any, .any, .any, .any, .any, .any, .any, .any, .any, .any, .any, .any, .any, .any, .any, .any, .any, .any, .any, .any, .any, .any, .any, .any, .any, .any, .any, .any, .any, .any, .any], [.ex false [.c (.sc (.bool t82.1)), .c (.sc (.int .u64 t90.1)), .c (.sc (.int .i64 t90.2)), .c (.sc (.bool t82.2.2.2))] 93, .ex false [.c (.sc (.bool t83.1)), .c (.sc (.int .u64 t.1)), .c (.sc (.int .i64 t.2)), .c (.sc (.bool t83.2.2.2))] 93], 0⟩
theorem halterref02_Div.l4_ok (t1 : Bool) (t2 : Bool) (t82 : Bool × Int × Int × Bool) (t83 : Bool × Int × Int × Bool) (t90 : Int × Int) : ∀ (n : Nat) (x97 : Int) (x98 : Int) (r : Int × Int), halterref02_Div.l4 t1 t2 t82 t83 t90 n x97 x98 = some r → TripN cfg (cpath (Tryd.f39.body.getD .skip) [1, 1, 1, 1, 1, 1, 1, 0, 0, 0]) n (halterref02_Div.l4_S t1 t2 t82 t83 t90 x97 x98) (halterref02_Div.l4_Q t1 t2 t82 t83 t90 r) := by
  intro n
  induction n with
  | zero => intro x97 x98 r h; cases h
  | succ n ih =>
    intro x97 x98 r h
    rw [halterref02_Div.l4] at h
    refine TripN.of_run cfg_ok (k := (.br (aE 3 (.adj [.keep [5, 6, 7], .drop 2] .nil)) (.adj [.keep [5, 6, 7], .drop 2] .nil))) (to_goal (q := (True) ∧ (True) ∧ (((decide (x97 < (4503599627370496 : Int))) = true → (True ∧ (True ∧ (True ∧ (True) ∧ (True) ∧ (True) ∧ (True) ∧ (True) ∧ (True) ∧ (((True) ∧ (True) ∧ True) ∧ TripN cfg (cpath (Tryd.f39.body.getD .skip) [1, 1, 1, 1, 1, 1, 1, 0, 0, 0]) n (halterref02_Div.l4_S t1 t2 t82 t83 t90 (IntKind.wrap .u64 ((2 : Int) * x97)) (IntKind.wrap .i64 (x98 - (1 : Int)))) (halterref02_Div.l4_Q t1 t2 t82 t83 t90 r)))))) ∧ ((decide (x97 < (4503599627370496 : Int))) = false → (((True) ∧ (True) ∧ True) ∧ halterref02_Div.l4_Q t1 t2 t82 t83 t90 r (.exit 2) ⟨[.any, .any, .any, .any, .any, .v (.one (.sc (.bool (!(t1 == t2))))), .v (.one (.ptr 0 ⟨0, 0, 0, 0⟩)), .v (.one (.ptr 1 ⟨0, 0, 0, 0⟩)), .any, .any, .any, .any, .any, .any, .any, .any, .any, .any, .any, .any, .any, .any, .any, .any, .any, .any, .any, .any, .any, .any, .any, .any, .any, .any, .any, .any, .any, .any, .any, .any, .any, .any, .any, .any, .any, .any, .any, .any, .any, .any, .any, .any, .any, .any, .any, .any, .any, .any, .any, .any, .any, .any, .any, .any, .any, .any, .any, .any, .any, .any, .any, .any, .any, .any, .any, .any, .any, .any, .any, .any, .any, .any, .any, .any, .any, .any, .any, .any, .any, .any, .any, .any, .any, .any, .any, .any, .any, .any, .any, .any, .any, .any, .any, .any, .any, .any, .any, .any, .any, .any, .any, .any, .any, .any, .any, .any, .any, .any, .any, .any, .any, .any, .any, .any], [.ex false [.c (.sc (.bool t82.1)), .c (.sc (.int .u64 t90.1)), .c (.sc (.int .i64 t90.2)), .c (.sc (.bool (z3 t82)))] 93, .ex false [.c (.sc (.bool t83.1)), .c (.sc (.int .u64 x97)), .c (.sc (.int .i64 x98)), .c (.sc (.bool (z3 t83)))] 93], 0⟩)))) (by kernel_rfl) ?_)
    refine ⟨trivial, trivial, ?_⟩
    refine ⟨fun b103 => ?_, fun b103 => ?_⟩
    · rw [if_pos (of_decide_eq_true b103)] at h
      refine ⟨trivial, trivial, trivial, trivial, trivial, trivial, trivial, trivial, trivial, ?_⟩
      exact ⟨⟨trivial, trivial, trivial⟩, ih (IntKind.wrap .u64 ((2 : Int) * x97)) (IntKind.wrap .i64 (x98 - (1 : Int))) r h⟩
    · rw [if_neg (of_decide_eq_false b103)] at h
      obtain rfl := Option.some.inj h
      exact ⟨⟨trivial, trivial, trivial⟩, rfl, rfl⟩
def halterref02_Div.l5 (t1 : Bool) (t2 : Bool) (t82 : Bool × Int × Int × Bool) (t83 : Bool × Int × Int × Bool) (t90 : Int × Int) (t102 : Int × Int) : Nat → Int → Int → Int → Option (Int × Int)
  | 0, _, _, _ => none
  | n + 1, x110, x111, x112 =>
    if x112 < (60 : Int) then
      if t102.1 ≠ 0 then
        if t102.1 ≠ 0 then
          halterref02_Div.l5 t1 t2 t82 t83 t90 t102 n (IntKind.wrap .u64 ((IntKind.wrap .u64 ((2 : Int) * x110)) + (IntKind.wrap .u64 (Int.tdiv (IntKind.wrap .u64 ((2 : Int) * x111)) t102.1)))) (Int.tmod (IntKind.wrap .u64 ((2 : Int) * x111)) t102.1) (IntKind.wrap .i64 (x112 + (1 : Int)))
        else none
      else none
    else
      some (x110, x111)
def halterref02_Div.l5_S (t1 : Bool) (t2 : Bool) (t82 : Bool × Int × Int × Bool) (t83 : Bool × Int × Int × Bool) (t90 : Int × Int) (t102 : Int × Int) (x110 : Int) (x111 : Int) (x112 : Int) : St := ⟨[.any, .any, .any, .any, .any, .v (.one (.sc (.bool (!(t1 == t2))))), .v (.one (.ptr 0 ⟨0, 0, 0, 0⟩)), .v (.one (.ptr 1 ⟨0, 0, 0, 0⟩)), .v (.one (.sc (.int .u64 x110))), .v (.one (.sc (.int .u64 x111))), .v (.one (.sc (.int .i64 x112))), .any, .any, .any, .any, .any, .any, .any, .any, .any, .any, .any, .any, .any, .any, .any, .any, .any, .any, .any, .any, .any, .any, .any, .any, .any, .any, .any, .any, .any, .any, .any, .any, .any, .any, .any, .any, .any, .any, .any, .any, .any, .any, .any, .any, .any, .any, .any, .any, .any, .any, .any, .any, .any, .any, .any, .any, .any, .any, .any, .any, .any, .any, .any, .any, .any, .any, .any, .any, .any, .any, .any, .any, .any, .any, .any, .any, .any, .any, .any, .any, .any, .any, .any, .any, .any, .any, .any, .any, .any, .any, .any, .any, .any, .any, .any, .any, .any, .any, .any, .any, .any, .any, .any, .any, .any, .any, .any, .any, .any, .any, .any, .any, .any], [.ex false [.c (.sc (.bool t82.1)), .c (.sc (.int .u64 t90.1)), .c (.sc (.int .i64 t90.2)), .c (.sc (.bool t82.2.2.2))] 93, .ex false [.c (.sc (.bool t83.1)), .c (.sc (.int .u64 t102.1)), .c (.sc (.int .i64 t102.2)), .c (.sc (.bool t83.2.2.2))] 93], 0⟩
def halterref02_Div.l5_Q (t1 : Bool) (t2 : Bool) (t82 : Bool × Int × Int × Bool) (t83 : Bool × Int × Int × Bool) (t90 : Int × Int) (t102 : Int × Int) (t : Int × Int) : Exit → St → Prop := fun e s => e = (.exit 4) ∧ s = ⟨[.any, .any, .any, .any, .any, .v (.one (.sc (.bool (!(t1 == t2))))), .v (.one (.ptr 0 ⟨0, 0, 0, 0⟩)), .v (.one (.ptr 1 ⟨0, 0, 0, 0⟩)), .v (.one (.sc (.int .u64 t.1))), .v (.one (.sc (.int .u64 t.2))), .any, .any, .any, .any, .any, .any, .any, .any, .any, .any, .any, .any, .any, .any, .any, .any, .any, .any, .any, .any, .any, .any, .any, .any, .any, .any, .any, .any, .any, .any, .any, .any, .any, .any, .any, .any, .any, .any, .any, .any, .any, .any, .any, .any, .any, .any, .any, .any, .any, .any, .any, .any, .any, .any, .any, .any, .any, .any, .any, .any, .any, .any, .any, .any, .any, .any, .any, .any, .any, .any, .any, .any, .any, .any, .any, .any, .any, .any, .any, .any, .any, .any, .any, .any, .any, .any, .any, .any, .any, .any, .any, .any, .any, .any, .any, .any, .any, .any, .any, .any, .any, .any, .any, .any, .any, .any, .any, .any, .any, .any, .any, .any, .any, .any], [.ex false [.c (.sc (.bool t82.1)), .c (.sc (.int .u64 t90.1)), .c (.sc (.int .i64 t90.2)), .c (.sc (.bool t82.2.2.2))] 93, .ex false [.c (.sc (.bool t83.1)), .c (.sc (.int .u64 t102.1)), .c (.sc (.int .i64 t102.2)), .c (.sc (.bool t83.2.2.2))] 93], 0⟩
theorem halterref02_Div.l5_ok (t1 : Bool) (t2 : Bool) (t82 : Bool × Int × Int × Bool) (t83 : Bool × Int × Int × Bool) (t90 : Int × Int) (t102 : Int × Int) : ∀ (n : Nat) (x110 : Int) (x111 : Int) (x112 : Int) (r : Int × Int), halterref02_Div.l5 t1 t2 t82 t83 t90 t102 n x110 x111 x112 = some r → TripN cfg (cpath (Tryd.f39.body.getD .skip) [1, 1, 1, 1, 1, 1, 1, 1, 1, 0, 1, 0, 0]) n (halterref02_Div.l5_S t1 t2 t82 t83 t90 t102 x110 x111 x112) (halterref02_Div.l5_Q t1 t2 t82 t83 t90 t102 r) := by
  intro n
  induction n with
  | zero => intro x110 x111 x112 r h; cases h
  | succ n ih =>
    intro x110 x111 x112 r h
    rw [halterref02_Div.l5] at h
    refine TripN.of_run cfg_ok (k := (.br (aE 6 (.adj [.keep [5, 6, 7, 8, 9, 10], .drop 2] .nil)) (.adj [.keep [5, 6, 7, 8, 9], .drop 2] .nil))) (to_goal (q := (True) ∧ (((decide (x112 < (60 : Int))) = true → (True ∧ (True ∧ (True ∧ (True) ∧ (True ∧ (True) ∧ (True) ∧ (t102.1 ≠ 0) ∧ (True) ∧ (True ∧ (True) ∧ (t102.1 ≠ 0) ∧ (True ∧ (True) ∧ (((True) ∧ (True) ∧ True) ∧ TripN cfg (cpath (Tryd.f39.body.getD .skip) [1, 1, 1, 1, 1, 1, 1, 1, 1, 0, 1, 0, 0]) n (halterref02_Div.l5_S t1 t2 t82 t83 t90 t102 (IntKind.wrap .u64 ((IntKind.wrap .u64 ((2 : Int) * x110)) + (IntKind.wrap .u64 (Int.tdiv (IntKind.wrap .u64 ((2 : Int) * x111)) t102.1)))) (Int.tmod (IntKind.wrap .u64 ((2 : Int) * x111)) t102.1) (IntKind.wrap .i64 (x112 + (1 : Int)))) (halterref02_Div.l5_Q t1 t2 t82 t83 t90 t102 r))))))))) ∧ ((decide (x112 < (60 : Int))) = false → (((True) ∧ (True) ∧ True) ∧ halterref02_Div.l5_Q t1 t2 t82 t83 t90 t102 r (.exit 4) ⟨[.any, .any, .any, .any, .any, .v (.one (.sc (.bool (!(t1 == t2))))), .v (.one (.ptr 0 ⟨0, 0, 0, 0⟩)), .v (.one (.ptr 1 ⟨0, 0, 0, 0⟩)), .v (.one (.sc (.int .u64 x110))), .v (.one (.sc (.int .u64 x111))), .any, .any, .any, .any, .any, .any, .any, .any, .any, .any, .any, .any, .any, .any, .any, .any, .any, .any, .any, .any, .any, .any, .any, .any, .any, .any, .any, .any, .any, .any, .any, .any, .any, .any, .any, .any, .any, .any, .any, .any, .any, .any, .any, .any, .any, .any, .any, .any, .any, .any, .any, .any, .any, .any, .any, .any, .any, .any, .any, .any, .any, .any, .any, .any, .any, .any, .any, .any, .any, .any, .any, .any, .any, .any, .any, .any, .any, .any, .any, .any, .any, .any, .any, .any, .any, .any, .any, .any, .any, .any, .any, .any, .any, .any, .any, .any, .any, .any, .any, .any, .any, .any, .any, .any, .any, .any, .any, .any, .any, .any, .any, .any, .any, .any], [.ex false [.c (.sc (.bool t82.1)), .c (.sc (.int .u64 t90.1)), .c (.sc (.int .i64 t90.2)), .c (.sc (.bool (z3 t82)))] 93, .ex false [.c (.sc (.bool t83.1)), .c (.sc (.int .u64 t102.1)), .c (.sc (.int .i64 t102.2)), .c (.sc (.bool (z3 t83)))] 93], 0⟩)))) (by kernel_rfl) ?_)
    refine ⟨trivial, ?_⟩
    refine ⟨fun b119 => ?_, fun b119 => ?_⟩
    · rw [if_pos (of_decide_eq_true b119)] at h
      refine ⟨trivial, trivial, trivial, trivial, trivial, trivial, trivial, ?_⟩
      obtain ⟨g121, h⟩ := of_guard h
      refine ⟨g121, ?_⟩
      refine ⟨trivial, trivial, trivial, ?_⟩
      obtain ⟨g120, h⟩ := of_guard h
      refine ⟨g120, ?_⟩
      refine ⟨trivial, trivial, ?_⟩
      exact ⟨⟨trivial, trivial, trivial⟩, ih (IntKind.wrap .u64 ((IntKind.wrap .u64 ((2 : Int) * x110)) + (IntKind.wrap .u64 (Int.tdiv (IntKind.wrap .u64 ((2 : Int) * x111)) t102.1)))) (Int.tmod (IntKind.wrap .u64 ((2 : Int) * x111)) t102.1) (IntKind.wrap .i64 (x112 + (1 : Int))) r h⟩
    · rw [if_neg (of_decide_eq_false b119)] at h
      obtain rfl := Option.some.inj h
      exact ⟨⟨trivial, trivial, trivial⟩, rfl, rfl⟩
def halterref02_Div.l6 (t1 : Bool) (t2 : Bool) (t143 : Bool × Int × Int × Bool) (t144 : Bool × Int × Int × Bool) : Nat → Int → Int → Option (Int × Int)
  | 0, _, _ => none
  | n + 1, x146, x147 =>
    if x146 < (4503599627370496 : Int) then
      halterref02_Div.l6 t1 t2 t143 t144 n (IntKind.wrap .u64 ((2 : Int) * x146)) (IntKind.wrap .i64 (x147 - (1 : Int)))
    else
      some (x146, x147)
def halterref02_Div.l6_S (t1 : Bool) (t2 : Bool) (t143 : Bool × Int × Int × Bool) (t144 : Bool × Int × Int × Bool) (x146 : Int) (x147 : Int) : St := ⟨[.any, .any, .any, .any, .any, .v (.one (.sc (.bool (!(t1 == t2))))), .v (.one (.ptr 0 ⟨0, 0, 0, 0⟩)), .v (.one (.ptr 1 ⟨0, 0, 0, 0⟩)), .any, .any, .any, .any, .any, .any, .any, .any, .any, .any, .any, .any, .any, .any, .any, .any, .any, .any, .any, .any, .any, .any, .any, .any, .any, .any, .any, .any, .any, .any, .any, .any, .any, .any, .any, .any, .any, .any, .any, .any, .any, .any, .any, .any, .any, .any, .any, .any, .any, .any, .any, .any, .any, .any, .any, .any, .any, .any, .any, .any, .any, .any, .any, .any, .any, .any, .any, .any, .any, .any, .any, .any, .any, .any, .any, .any, .any, .any, .any, .any, .any, .any, .any, .any, .any, .any, .any, .any, .any, .any, .any, .any, .any, .any, .any, .any, .any, .any, .any, .any, .any, .any, .any, .any, .any, .any, .any, .any, .any, .any, .any, .any, .any, .any, .any, .any], [.ex false [.c (.sc (.bool t143.1)), .c (.sc (.int .u64 x146)), .c (.sc (.int .i64 x147)), .c (.sc (.bool t143.2.2.2))] 93, .ex false [.c (.sc (.bool t144.1)), .c (.sc (.int .u64 t144.2.1)), .c (.sc (.int .i64 t144.2.2.1)), .c (.sc (.bool t144.2.2.2))] 93], 0⟩
def halterref02_Div.l6_Q (t1 : Bool) (t2 : Bool) (t143 : Bool × Int × Int × Bool) (t144 : Bool × Int × Int × Bool) (t : Int × Int) : Exit → St → Prop := fun e s => e = (.exit 0) ∧ s = ⟨[.any, .any, .any, .any, .any, .v (.one (.sc (.bool (!(t1 == t2))))), .v (.one (.ptr 0 ⟨0, 0, 0, 0⟩)), .v (.one (.ptr 1 ⟨0, 0, 0, 0⟩)), .any, .any, .any, .any, .any, .any, .any, .any, .any, .any, .any, .any, .any, .any, .any, .any, .any, .any, .any, .any, .any, .any, .any, .any, .any, .any, .any, .any, .any, .any, .any, .any, .any, .any, .any, .any, .any, .any, .any, .any, .any, .any, .any, .any, .any, .any, .any, .any, .any, .any, .any, .any, .any, .any, .any, .any, .any, .any, .any, .any, .any, .any, .any, .any, .any, .any, .any, .any, .any, .any, .any, .any, .any, .any, .any, .any, .any, .any, .any, .any, .any, .any, .any, .any, .any, .any, .any, .any, .any, .any, .any, .any, .any, .any, .any, .any, .any, .any, .any, .any, .any, .any, .any, .any, .any, .any, .any, .any, .any, .any, .any, .any, .any, .any, .any, .any], [.ex false [.c (.sc (.bool t143.1)), .c (.sc (.int .u64 t.1)), .c (.sc (.int .i64 t.2)), .c (.sc (.bool t143.2.2.2))] 93, .ex false [.c (.sc (.bool t144.1)), .c (.sc (.int .u64 t144.2.1)), .c (.sc (.int .i64 t144.2.2.1)), .c (.sc (.bool t144.2.2.2))] 93], 0⟩
theorem halterref02_Div.l6_ok (t1 : Bool) (t2 : Bool) (t143 : Bool × Int × Int × Bool) (t144 : Bool × Int × Int × Bool) : ∀ (n : Nat) (x146 : Int) (x147 : Int) (r : Int × Int), halterref02_Div.l6 t1 t2 t143 t144 n x146 x147 = some r → TripN cfg (cpath (Tryd.f39.body.getD .skip) [1, 1, 1, 1, 1, 1, 0, 0, 0]) n (halterref02_Div.l6_S t1 t2 t143 t144 x146 x147) (halterref02_Div.l6_Q t1 t2 t143 t144 r) := by
  intro n
  induction n with
  | zero => intro x146 x147 r h; cases h
  | succ n ih =>
    intro x146 x147 r h
    rw [halterref02_Div.l6] at h
    refine TripN.of_run cfg_ok (k := (.br (aE 3 (.adj [.keep [5, 6, 7], .drop 2] .nil)) (.adj [.keep [5, 6, 7], .drop 2] .nil))) (to_goal (q := (True) ∧ (True) ∧ (((decide (x146 < (4503599627370496 : Int))) = true → (True ∧ (True ∧ (True ∧ (True) ∧ (True) ∧ (True) ∧ (True) ∧ (True) ∧ (True) ∧ (((True) ∧ (True) ∧ True) ∧ TripN cfg (cpath (Tryd.f39.body.getD .skip) [1, 1, 1, 1, 1, 1, 0, 0, 0]) n (halterref02_Div.l6_S t1 t2 t143 t144 (IntKind.wrap .u64 ((2 : Int) * x146)) (IntKind.wrap .i64 (x147 - (1 : Int)))) (halterref02_Div.l6_Q t1 t2 t143 t144 r)))))) ∧ ((decide (x146 < (4503599627370496 : Int))) = false → (((True) ∧ (True) ∧ True) ∧ halterref02_Div.l6_Q t1 t2 t143 t144 r (.exit 0) ⟨[.any, .any, .any, .any, .any, .v (.one (.sc (.bool (!(t1 == t2))))), .v (.one (.ptr 0 ⟨0, 0, 0, 0⟩)), .v (.one (.ptr 1 ⟨0, 0, 0, 0⟩)), .any, .any, .any, .any, .any, .any, .any, .any, .any, .any, .any, .any, .any, .any, .any, .any, .any, .any, .any, .any, .any, .any, .any, .any, .any, .any, .any, .any, .any, .any, .any, .any, .any, .any, .any, .any, .any, .any, .any, .any, .any, .any, .any, .any, .any, .any, .any, .any, .any, .any, .any, .any, .any, .any, .any, .any, .any, .any, .any, .any, .any, .any, .any, .any, .any, .any, .any, .any, .any, .any, .any, .any, .any, .any, .any, .any, .any, .any, .any, .any, .any, .any, .any, .any, .any, .any, .any, .any, .any, .any, .any, .any, .any, .any, .any, .any, .any, .any, .any, .any, .any, .any, .any, .any, .any, .any, .any, .any, .any, .any, .any, .any, .any, .any, .any, .any], [.ex false [.c (.sc (.bool t143.1)), .c (.sc (.int .u64 x146)), .c (.sc (.int .i64 x147)), .c (.sc (.bool (z3 t143)))] 93, .ex false [.c (.sc (.bool t144.1)), .c (.sc (.int .u64 t144.2.1)), .c (.sc (.int .i64 (p2 t144))), .c (.sc (.bool (z3 t144)))] 93], 0⟩)))) (by kernel_rfl) ?_)
    refine ⟨trivial, trivial, ?_⟩
    refine ⟨fun b152 => ?_, fun b152 => ?_⟩
    · rw [if_pos (of_decide_eq_true b152)] at h
      refine ⟨trivial, trivial, trivial, trivial, trivial, trivial, trivial, trivial, trivial, ?_⟩
      exact ⟨⟨trivial, trivial, trivial⟩, ih (IntKind.wrap .u64 ((2 : Int) * x146)) (IntKind.wrap .i64 (x147 - (1 : Int))) r h⟩
    · rw [if_neg (of_decide_eq_false b152)] at h
      obtain rfl := Option.some.inj h
      exact ⟨⟨trivial, trivial, trivial⟩, rfl, rfl⟩
def halterref02_Div.l7 (t1 : Bool) (t2 : Bool) (t143 : Bool × Int × Int × Bool) (t144 : Bool × Int × Int × Bool) (t151 : Int × Int) : Nat → Int → Int → Option (Int × Int)
  | 0, _, _ => none
  | n + 1, x158, x159 =>
    if x158 < (4503599627370496 : Int) then
      halterref02_Div.l7 t1 t2 t143 t144 t151 n (IntKind.wrap .u64 ((2 : Int) * x158)) (IntKind.wrap .i64 (x159 - (1 : Int)))
    else
      some (x158, x159)
def halterref02_Div.l7_S (t1 : Bool) (t2 : Bool) (t143 : Bool × Int × Int × Bool) (t144 : Bool × Int × Int × Bool) (t151 : Int × Int) (x158 : Int) (x159 : Int) : St := ⟨[.any, .any, .any, .any, .any, .v (.one (.sc (.bool (!(t1 == t2))))), .v (.one (.ptr 0 ⟨0, 0, 0, 0⟩)), .v (.one (.ptr 1 ⟨0, 0, 0, 0⟩)), .any, .any, .any, .any, .any, .any, .any, .any, .any, .any, .any, .any, .any, .any, .any, .any, .any, .any, .any, .any, .any, .any, .any, .any, .any, .any, .any, .any, .any, .any, .any, .any, .any, .any, .any, .any, .any, .any, .any, .any, .any, .any, .any, .any, .any, .any, .any, .any, .any, .any, .any, .any, .any, .any, .any, .any, .any, .any, .any, .any, .any, .any, .any, .any, .any, .any, .any, .any, .any, .any, .any, .any, .any, .any, .any, .any, .any, .any, .any, .any, .any, .any, .any, .any, .any, .any, .any, .any, .any, .any, .any, .any, .any, .any, .any, .any, .any, .any, .any, .any, .any, .any, .any, .any, .any, .any, .any, .any, .any, .any, .any, .any, .any, .any, .any, .any], [.ex false [.c (.sc (.bool t143.1)), .c (.sc (.int .u64 t151.1)), .c (.sc (.int .i64 t151.2)), .c (.sc (.bool t143.2.2.2))] 93, .ex false [.c (.sc (.bool t144.1)), .c (.sc (.int .u64 x158)), .c (.sc (.int .i64 x159)), .c (.sc (.bool t144.2.2.2))] 93], 0⟩
def halterref02_Div.l7_Q (t1 : Bool) (t2 : Bool) (t143 : Bool × Int × Int × Bool) (t144 : Bool × Int × Int × Bool) (t151 : Int × Int) (t : Int × Int) : Exit → St → Prop := fun e s => e = (.exit 2) ∧ s = ⟨[.any, .any, .any, .any, .any, .v (.one (.sc (.bool (!(t1 == t2))))), .v (.one (.ptr 0 ⟨0, 0, 0, 0⟩)), .v (.one (.ptr 1 ⟨0, 0, 0, 0⟩)), .any, .any, .any, .any, .any, .any, .any, .any, .any, .any, .any, .any, .any, .any, .any, .any, .any, .any, .any, .any, .any, .any, .any, .any, .any, .any, .any, .any, .any, .any, .any, .any, .any, .any, .any, .any, .any, .any, .any, .any, .any, .any, .any, .any, .any, .any, .any, .any, .any, .any, .any, .any, .any, .any, .any, .any, .any, .any, .any, .any, .any, .any, .any, .any, .any, .any, .any, .any, .any, .any, .any, .any, .any, .any, .any, .any, .any, .any, .any, .any, .any, .any, .any, .any, .any, .any, .any, .any, .any, .any, .any, .any, .any, .any, .any, .any, .any, .any, .any, .any, .any, .any, .any, .any, .any, .any, .any, .any, .any, .any, .any, .any, .any, .any, .any, .any], [.ex false [.c (.sc (.bool t143.1)), .c (.sc (.int .u64 t151.1)), .c (.sc (.int .i64 t151.2)), .c (.sc (.bool t143.2.2.2))] 93, .ex false [.c (.sc (.bool t144.1)), .c (.sc (.int .u64 t.1)), .c (.sc (.int .i64 t.2)), .c (.sc (.bool t144.2.2.2))] 93], 0⟩
theorem halterref02_Div.l7_ok (t1 : Bool) (t2 : Bool) (t143 : Bool × Int × Int × Bool) (t144 : Bool × Int × Int × Bool) (t151 : Int × Int) : ∀ (n : Nat) (x158 : Int) (x159 : Int) (r : Int × Int), halterref02_Div.l7 t1 t2 t143 t144 t151 n x158 x159 = some r → TripN cfg (cpath (Tryd.f39.body.getD .skip) [1, 1, 1, 1, 1, 1, 1, 0, 0, 0]) n (halterref02_Div.l7_S t1 t2 t143 t144 t151 x158 x159) (halterref02_Div.l7_Q t1 t2 t143 t144 t151 r) := by
  intro n
  induction n with
  | zero => intro x158 x159 r h; cases h
  | succ n ih =>
    intro x158 x159 r h
    rw [halterref02_Div.l7] at h
    refine TripN.of_run cfg_ok (k := (.br (aE 3 (.adj [.keep [5, 6, 7], .drop 2] .nil)) (.adj [.keep [5, 6, 7], .drop 2] .nil))) (to_goal (q := (True) ∧ (True) ∧ (((decide (x158 < (4503599627370496 : Int))) = true → (True ∧ (True ∧ (True ∧ (True) ∧ (True) ∧ (True) ∧ (True) ∧ (True) ∧ (True) ∧ (((True) ∧ (True) ∧ True) ∧ TripN cfg (cpath (Tryd.f39.body.getD .skip) [1, 1, 1, 1, 1, 1, 1, 0, 0, 0]) n (halterref02_Div.l7_S t1 t2 t143 t144 t151 (IntKind.wrap .u64 ((2 : Int) * x158)) (IntKind.wrap .i64 (x159 - (1 : Int)))) (halterref02_Div.l7_Q t1 t2 t143 t144 t151 r)))))) ∧ ((decide (x158 < (4503599627370496 : Int))) = false → (((True) ∧ (True) ∧ True) ∧ halterref02_Div.l7_Q t1 t2 t143 t144 t151 r (.exit 2) ⟨[.any, .any, .any, .any, .any, .v (.one (.sc (.bool (!(t1 == t2))))), .v (.one (.ptr 0 ⟨0, 0, 0, 0⟩)), .v (.one (.ptr 1 ⟨0, 0, 0, 0⟩)), .any, .any, .any, .any, .any, .any, .any, .any, .any, .any, .any, .any, .any, .any, .any, .any, .any, .any, .any, .any, .any, .any, .any, .any, .any, .any, .any, .any, .any, .any, .any, .any, .any, .any, .any, .any, .any, .any, .any, .any, .any, .any, .any, .any, .any, .any, .any, .any, .any, .any, .any, .any, .any, .any, .any, .any, .any, .any, .any, .any, .any, .any, .any, .any, .any, .any, .any, .any, .any, .any, .any, .any, .any, .any, .any, .any, .any, .any, .any, .any, .any, .any, .any, .any, .any, .any, .any, .any, .any, .any, .any, .any, .any, .any, .any, .any, .any, .any, .any, .any, .any, .any, .any, .any, .any, .any, .any, .any, .any, .any, .any, .any, .any, .any, .any, .any], [.ex false [.c (.sc (.bool t143.1)), .c (.sc (.int .u64 t151.1)), .c (.sc (.int .i64 t151.2)), .c (.sc (.bool (z3 t143)))] 93, .ex false [.c (.sc (.bool t144.1)), .c (.sc (.int .u64 x158)), .c (.sc (.int .i64 x159)), .c (.sc (.bool (z3 t144)))] 93], 0⟩)))) (by kernel_rfl) ?_)
    refine ⟨trivial, trivial, ?_⟩
    refine ⟨fun b164 => ?_, fun b164 => ?_⟩
    · rw [if_pos (of_decide_eq_true b164)] at h
      refine ⟨trivial, trivial, trivial, trivial, trivial, trivial, trivial, trivial, trivial, ?_⟩
      exact ⟨⟨trivial, trivial, trivial⟩, ih (IntKind.wrap .u64 ((2 : Int) * x158)) (IntKind.wrap .i64 (x159 - (1 : Int))) r h⟩
    · rw [if_neg (of_decide_eq_false b164)] at h
      obtain rfl := Option.some.inj h
      exact ⟨⟨trivial, trivial, trivial⟩, rfl, rfl⟩
def halterref02_Div.l8 (t1 : Bool) (t2 : Bool) (t143 : Bool × Int × Int × Bool) (t144 : Bool × Int × Int × Bool) (t151 : Int × Int) (t163 : Int × Int) : Nat → Int → Int → Int → Option (Int × Int)
  | 0, _, _, _ => none
  | n + 1, x171, x172, x173 =>
    if x173 < (60 : Int) then
      if t163.1 ≠ 0 then
        if t163.1 ≠ 0 then
          halterref02_Div.l8 t1 t2 t143 t144 t151 t163 n (IntKind.wrap .u64 ((IntKind.wrap .u64 ((2 : Int) * x171)) + (IntKind.wrap .u64 (Int.tdiv (IntKind.wrap .u64 ((2 : Int) * x172)) t163.1)))) (Int.tmod (IntKind.wrap .u64 ((2 : Int) * x172)) t163.1) (IntKind.wrap .i64 (x173 + (1 : Int)))
        else none
      else none
    else
      some (x171, x172)
def halterref02_Div.l8_S (t1 : Bool) (t2 : Bool) (t143 : Bool × Int × Int × Bool) (t144 : Bool × Int × Int × Bool) (t151 : Int × Int) (t163 : Int × Int) (x171 : Int) (x172 : Int) (x173 : Int) : St := ⟨[.any, .any, .any, .any, .any, .v (.one (.sc (.bool (!(t1 == t2))))), .v (.one (.ptr 0 ⟨0, 0, 0, 0⟩)), .v (.one (.ptr 1 ⟨0, 0, 0, 0⟩)), .v (.one (.sc (.int .u64 x171))), .v (.one (.sc (.int .u64 x172))), .v (.one (.sc (.int .i64 x173))), .any, .any, .any, .any, .any, .any, .any, .any, .any, .any, .any, .any, .any, .any, .any, .any, .any, .any, .any, .any, .any, .any, .any, .any, .any, .any, .any, .any, .any, .any, .any, .any, .any, .any, .any, .any, .any, .any, .any, .any, .any, .any, .any, .any, .any, .any, .any, .any, .any, .any, .any, .any, .any, .any, .any, .any, .any, .any, .any, .any, .any, .any, .any, .any, .any, .any, .any, .any, .any, .any, .any, .any, .any, .any, .any, .any, .any, .any, .any, .any, .any, .any, .any, .any, .any, .any, .any, .any, .any, .any, .any, .any, .any, .any, .any, .any, .any, .any, .any, .any, .any, .any, .any, .any, .any, .any, .any, .any, .any, .any, .any, .any, .any], [.ex false [.c (.sc (.bool t143.1)), .c (.sc (.int .u64 t151.1)), .c (.sc (.int .i64 t151.2)), .c (.sc (.bool t143.2.2.2))] 93, .ex false [.c (.sc (.bool t144.1)), .c (.sc (.int .u64 t163.1)), .c (.sc (.int .i64 t163.2)), .c (.sc (.bool t144.2.2.2))] 93], 0⟩
def halterref02_Div.l8_Q (t1 : Bool) (t2 : Bool) (t143 : Bool × Int × Int × Bool) (t144 : Bool × Int × Int × Bool) (t151 : Int × Int) (t163 : Int × Int) (t : Int × Int) : Exit → St → Prop := fun e s => e = (.exit 4) ∧ s = ⟨[.any, .any, .any, .any, .any, .v (.one (.sc (.bool (!(t1 == t2))))), .v (.one (.ptr 0 ⟨0, 0, 0, 0⟩)), .v (.one (.ptr 1 ⟨0, 0, 0, 0⟩)), .v (.one (.sc (.int .u64 t.1))), .v (.one (.sc (.int .u64 t.2))), .any, .any, .any, .any, .any, .any, .any, .any, .any, .any, .any, .any, .any, .any, .any, .any, .any, .any, .any, .any, .any, .any, .any, .any, .any, .any, .any, .any, .any, .any, .any, .any, .any, .any, .any, .any, .any, .any, .any, .any, .any, .any, .any, .any, .any, .any, .any, .any, .any, .any, .any, .any, .any, .any, .any, .any, .any, .any, .any, .any, .any, .any, .any, .any, .any, .any, .any, .any, .any, .any, .any, .any, .any, .any, .any, .any, .any, .any, .any, .any, .any, .any, .any, .any, .any, .any, .any, .any, .any, .any, .any, .any, .any, .any, .any, .any, .any, .any, .any, .any, .any, .any, .any, .any, .any, .any, .any, .any, .any, .any, .any, .any, .any, .any], [.ex false [.c (.sc (.bool t143.1)), .c (.sc (.int .u64 t151.1)), .c (.sc (.int .i64 t151.2)), .c (.sc (.bool t143.2.2.2))] 93, .ex false [.c (.sc (.bool t144.1)), .c (.sc (.int .u64 t163.1)), .c (.sc (.int .i64 t163.2)), .c (.sc (.bool t144.2.2.2))] 93], 0⟩
theorem halterref02_Div.l8_ok (t1 : Bool) (t2 : Bool) (t143 : Bool × Int × Int × Bool) (t144 : Bool × Int × Int × Bool) (t151 : Int × Int) (t163 : Int × Int) : ∀ (n : Nat) (x171 : Int) (x172 : Int) (x173 : Int) (r : Int × Int), halterref02_Div.l8 t1 t2 t143 t144 t151 t163 n x171 x172 x173 = some r → TripN cfg (cpath (Tryd.f39.body.getD .skip) [1, 1, 1, 1, 1, 1, 1, 1, 1, 0, 1, 0, 0]) n (halterref02_Div.l8_S t1 t2 t143 t144 t151 t163 x171 x172 x173) (halterref02_Div.l8_Q t1 t2 t143 t144 t151 t163 r) := by
  intro n
  induction n with
  | zero => intro x171 x172 x173 r h; cases h
  | succ n ih =>
    intro x171 x172 x173 r h
    rw [halterref02_Div.l8] at h
    refine TripN.of_run cfg_ok (k := (.br (aE 6 (.adj [.keep [5, 6, 7, 8, 9, 10], .drop 2] .nil)) (.adj [.keep [5, 6, 7, 8, 9], .drop 2] .nil))) (to_goal (q := (True) ∧ (((decide (x173 < (60 : Int))) = true → (True ∧ (True ∧ (True ∧ (True) ∧ (True ∧ (True) ∧ (True) ∧ (t163.1 ≠ 0) ∧ (True) ∧ (True ∧ (True) ∧ (t163.1 ≠ 0) ∧ (True ∧ (True) ∧ (((True) ∧ (True) ∧ True) ∧ TripN cfg (cpath (Tryd.f39.body.getD .skip) [1, 1, 1, 1, 1, 1, 1, 1, 1, 0, 1, 0, 0]) n (halterref02_Div.l8_S t1 t2 t143 t144 t151 t163 (IntKind.wrap .u64 ((IntKind.wrap .u64 ((2 : Int) * x171)) + (IntKind.wrap .u64 (Int.tdiv (IntKind.wrap .u64 ((2 : Int) * x172)) t163.1)))) (Int.tmod (IntKind.wrap .u64 ((2 : Int) * x172)) t163.1) (IntKind.wrap .i64 (x173 + (1 : Int)))) (halterref02_Div.l8_Q t1 t2 t143 t144 t151 t163 r))))))))) ∧ ((decide (x173 < (60 : Int))) = false → (((True) ∧ (True) ∧ True) ∧ halterref02_Div.l8_Q t1 t2 t143 t144 t151 t163 r (.exit 4) ⟨[.any, .any, .any, .any, .any, .v (.one (.sc (.bool (!(t1 == t2))))), .v (.one (.ptr 0 ⟨0, 0, 0, 0⟩)), .v (.one (.ptr 1 ⟨0, 0, 0, 0⟩)), .v (.one (.sc (.int .u64 x171))), .v (.one (.sc (.int .u64 x172))), .any, .any, .any, .any, .any, .any, .any, .any, .any, .any, .any, .any, .any, .any, .any, .any, .any, .any, .any, .any, .any, .any, .any, .any, .any, .any, .any, .any, .any, .any, .any, .any, .any, .any, .any, .any, .any, .any, .any, .any, .any, .any, .any, .any, .any, .any, .any, .any, .any, .any, .any, .any, .any, .any, .any, .any, .any, .any, .any, .any, .any, .any, .any, .any, .any, .any, .any, .any, .any, .any, .any, .any, .any, .any, .any, .any, .any, .any, .any, .any, .any, .any, .any, .any, .any, .any, .any, .any, .any, .any, .any, .any, .any, .any, .any, .any, .any, .any, .any, .any, .any, .any, .any, .any, .any, .any, .any, .any, .any, .any, .any, .any, .any, .any], [.ex false [.c (.sc (.bool t143.1)), .c (.sc (.int .u64 t151.1)), .c (.sc (.int .i64 t151.2)), .c (.sc (.bool (z3 t143)))] 93, .ex false [.c (.sc (.bool t144.1)), .c (.sc (.int .u64 t163.1)), .c (.sc (.int .i64 t163.2)), .c (.sc (.bool (z3 t144)))] 93], 0⟩)))) (by kernel_rfl) ?_)
    refine ⟨trivial, ?_⟩
    refine ⟨fun b180 => ?_, fun b180 => ?_⟩
    · rw [if_pos (of_decide_eq_true b180)] at h
      refine ⟨trivial, trivial, trivial, trivial, trivial, trivial, trivial, ?_⟩
      obtain ⟨g182, h⟩ := of_guard h
      refine ⟨g182, ?_⟩
      refine ⟨trivial, trivial, trivial, ?_⟩
      obtain ⟨g181, h⟩ := of_guard h
      refine ⟨g181, ?_⟩
      refine ⟨trivial, trivial, ?_⟩
      exact ⟨⟨trivial, trivial, trivial⟩, ih (IntKind.wrap .u64 ((IntKind.wrap .u64 ((2 : Int) * x171)) + (IntKind.wrap .u64 (Int.tdiv (IntKind.wrap .u64 ((2 : Int) * x172)) t163.1)))) (Int.tmod (IntKind.wrap .u64 ((2 : Int) * x172)) t163.1) (IntKind.wrap .i64 (x173 + (1 : Int))) r h⟩
    · rw [if_neg (of_decide_eq_false b180)] at h
      obtain rfl := Option.some.inj h
      exact ⟨⟨trivial, trivial, trivial⟩, rfl, rfl⟩
def halterref02_Div.l9 (t1 : Bool) (t2 : Bool) (t200 : Bool × Int × Int × Bool) (t201 : Bool × Int × Int × Bool) : Nat → Int → Int → Option (Int × Int)
  | 0, _, _ => none
  | n + 1, x203, x204 =>
    if x203 < (4503599627370496 : Int) then
      halterref02_Div.l9 t1 t2 t200 t201 n (IntKind.wrap .u64 ((2 : Int) * x203)) (IntKind.wrap .i64 (x204 - (1 : Int)))
    else
      some (x203, x204)
def halterref02_Div.l9_S (t1 : Bool) (t2 : Bool) (t200 : Bool × Int × Int × Bool) (t201 : Bool × Int × Int × Bool) (x203 : Int) (x204 : Int) : St := ⟨[.any, .any, .any, .any, .any, .v (.one (.sc (.bool (!(t1 == t2))))), .v (.one (.ptr 0 ⟨0, 0, 0, 0⟩)), .v (.one (.ptr 1 ⟨0, 0, 0, 0⟩)), .any, .any, .any, .any, .any, .any, .any, .any, .any, .any, .any, .any, .any, .any, .any, .any, .any, .any, .any, .any, .any, .any, .any, .any, .any, .any, .any, .any, .any, .any, .any, .any, .any, .any, .any, .any, .any, .any, .any, .any, .any, .any, .any, .any, .any, .any, .any, .any, .any, .any, .any, .any, .any, .any, .any, .any, .any, .any, .any, .any, .any, .any, .any, .any, .any, .any, .any, .any, .any, .any, .any, .any, .any, .any, .any, .any, .any, .any, .any, .any, .any, .any, .any, .any, .any, .any, .any, .any, .any, .any, .any, .any, .any, .any, .any, .any, .any, .any, .any, .any, .any, .any, .any, .any, .any, .any, .any, .any, .any, .any, .any, .any, .any, .any, .any, .any], [.ex false [.c (.sc (.bool t200.1)), .c (.sc (.int .u64 x203)), .c (.sc (.int .i64 x204)), .c (.sc (.bool t200.2.2.2))] 93, .ex false [.c (.sc (.bool t201.1)), .c (.sc (.int .u64 t201.2.1)), .c (.sc (.int .i64 t201.2.2.1)), .c (.sc (.bool t201.2.2.2))] 93], 0⟩
def halterref02_Div.l9_Q (t1 : Bool) (t2 : Bool) (t200 : Bool × Int × Int × Bool) (t201 : Bool × Int × Int × Bool) (t : Int × Int) : Exit → St → Prop := fun e s => e = (.exit 0) ∧ s = ⟨[.any, .any, .any, .any, .any, .v (.one (.sc (.bool (!(t1 == t2))))), .v (.one (.ptr 0 ⟨0, 0, 0, 0⟩)), .v (.one (.ptr 1 ⟨0, 0, 0, 0⟩)), .any, .any, .any, .any, .any, .any, .any, .any, .any, .any, .any, .any, .any, .any, .any, .any, .any, .any, .any, .any, .any, .any, .any, .any, .any, .any, .any, .any, .any, .any, .any, .any, .any, .any, .any, .any, .any, .any, .any, .any, .any, .any, .any, .any, .any, .any, .any, .any, .any, .any, .any, .any, .any, .any, .any, .any, .any, .any, .any, .any, .any, .any, .any, .any, .any, .any, .any, .any, .any, .any, .any, .any, .any, .any, .any, .any, .any, .any, .any, .any, .any, .any, .any, .any, .any, .any, .any, .any, .any, .any, .any, .any, .any, .any, .any, .any, .any, .any, .any, .any, .any, .any, .any, .any, .any, .any, .any, .any, .any, .any, .any, .any, .any, .any, .any, .any], [.ex false [.c (.sc (.bool t200.1)), .c (.sc (.int .u64 t.1)), .c (.sc (.int .i64 t.2)), .c (.sc (.bool t200.2.2.2))] 93, .ex false [.c (.sc (.bool t201.1)), .c (.sc (.int .u64 t201.2.1)), .c (.sc (.int .i64 t201.2.2.1)), .c (.sc (.bool t201.2.2.2))] 93], 0⟩
theorem halterref02_Div.l9_ok (t1 : Bool) (t2 : Bool) (t200 : Bool × Int × Int × Bool) (t201 : Bool × Int × Int × Bool) : ∀ (n : Nat) (x203 : Int) (x204 : Int) (r : Int × Int), halterref02_Div.l9 t1 t2 t200 t201 n x203 x204 = some r → TripN cfg (cpath (Tryd.f39.body.getD .skip) [1, 1, 1, 1, 1, 1, 0, 0, 0]) n (halterref02_Div.l9_S t1 t2 t200 t201 x203 x204) (halterref02_Div.l9_Q t1 t2 t200 t201 r) := by
  intro n
  induction n with
  | zero => intro x203 x204 r h; cases h
  | succ n ih =>
    intro x203 x204 r h
    rw [halterref02_Div.l9] at h
    refine TripN.of_run cfg_ok (k := (.br (aE 3 (.adj [.keep [5, 6, 7], .drop 2] .nil)) (.adj [.keep [5, 6, 7], .drop 2] .nil))) (to_goal (q := (True) ∧ (True) ∧ (((decide (x203 < (4503599627370496 : Int))) = true → (True ∧ (True ∧ (True ∧ (True) ∧ (True) ∧ (True) ∧ (True) ∧ (True) ∧ (True) ∧ (((True) ∧ (True) ∧ True) ∧ TripN cfg (cpath (Tryd.f39.body.getD .skip) [1, 1, 1, 1, 1, 1, 0, 0, 0]) n (halterref02_Div.l9_S t1 t2 t200 t201 (IntKind.wrap .u64 ((2 : Int) * x203)) (IntKind.wrap .i64 (x204 - (1 : Int)))) (halterref02_Div.l9_Q t1 t2 t200 t201 r)))))) ∧ ((decide (x203 < (4503599627370496 : Int))) = false → (((True) ∧ (True) ∧ True) ∧ halterref02_Div.l9_Q t1 t2 t200 t201 r (.exit 0) ⟨[.any, .any, .any, .any, .any, .v (.one (.sc (.bool (!(t1 == t2))))), .v (.one (.ptr 0 ⟨0, 0, 0, 0⟩)), .v (.one (.ptr 1 ⟨0, 0, 0, 0⟩)), .any, .any, .any, .any, .any, .any, .any, .any, .any, .any, .any, .any, .any, .any, .any, .any, .any, .any, .any, .any, .any, .any, .any, .any, .any, .any, .any, .any, .any, .any, .any, .any, .any, .any, .any, .any, .any, .any, .any, .any, .any, .any, .any, .any, .any, .any, .any, .any, .any, .any, .any, .any, .any, .any, .any, .any, .any, .any, .any, .any, .any, .any, .any, .any, .any, .any, .any, .any, .any, .any, .any, .any, .any, .any, .any, .any, .any, .any, .any, .any, .any, .any, .any, .any, .any, .any, .any, .any, .any, .any, .any, .any, .any, .any, .any, .any, .any, .any, .any, .any, .any, .any, .any, .any, .any, .any, .any, .any, .any, .any, .any, .any, .any, .any, .any, .any], [.ex false [.c (.sc (.bool t200.1)), .c (.sc (.int .u64 x203)), .c (.sc (.int .i64 x204)), .c (.sc (.bool (z3 t200)))] 93, .ex false [.c (.sc (.bool t201.1)), .c (.sc (.int .u64 t201.2.1)), .c (.sc (.int .i64 (p2 t201))), .c (.sc (.bool (z3 t201)))] 93], 0⟩)))) (by kernel_rfl) ?_)
    refine ⟨trivial, trivial, ?_⟩
    refine ⟨fun b209 => ?_, fun b209 => ?_⟩
    · rw [if_pos (of_decide_eq_true b209)] at h
      refine ⟨trivial, trivial, trivial, trivial, trivial, trivial, trivial, trivial, trivial, ?_⟩
      exact ⟨⟨trivial, trivial, trivial⟩, ih (IntKind.wrap .u64 ((2 : Int) * x203)) (IntKind.wrap .i64 (x204 - (1 : Int))) r h⟩
    · rw [if_neg (of_decide_eq_false b209)] at h
      obtain rfl := Option.some.inj h
      exact ⟨⟨trivial, trivial, trivial⟩, rfl, rfl⟩
def halterref02_Div.l10 (t1 : Bool) (t2 : Bool) (t200 : Bool × Int × Int × Bool) (t201 : Bool × Int × Int × Bool) (t208 : Int × Int) : Nat → Int → Int → Option (Int × Int)
  | 0, _, _ => none
  | n + 1, x215, x216 =>
    if x215 < (4503599627370496 : Int) then
      halterref02_Div.l10 t1 t2 t200 t201 t208 n (IntKind.wrap .u64 ((2 : Int) * x215)) (IntKind.wrap .i64 (x216 - (1 : Int)))
    else
      some (x215, x216)
def halterref02_Div.l10_S (t1 : Bool) (t2 : Bool) (t200 : Bool × Int × Int × Bool) (t201 : Bool × Int × Int × Bool) (t208 : Int × Int) (x215 : Int) (x216 : Int) : St := ⟨[.any, .any, .any, .any, .any, .v (.one (.sc (.bool (!(t1 == t2))))), .v (.one (.ptr 0 ⟨0, 0, 0, 0⟩)), .v (.one (.ptr 1 ⟨0, 0, 0, 0⟩)), .any, .any, .any, .any, .any, .any, .any, .any, .any, .any, .any, .any, .any, .any, .any, .any, .any, .any, .any, .any, .any, .any, .any, .any, .any, .any, .any, .any, .any, .any, .any, .any, .any, .any, .any, .any, .any, .any, .any, .any, .any, .any, .any, .any, .any, .any, .any, .any, .any, .any, .any, .any, .any, .any, .any, .any, .any, .any, .any, .any, .any, .any, .any, .any, .any, .any, .any, .any, .any, .any, .any, .any, .any, .any, .any, .any, .any, .any, .any, .any, .any, .any, .any, .any, .any, .any, .any, .any, .any, .any, .any, .any, .any, .any, .any, .any, .any, .any, .any, .any, .any, .any, .any, .any, .any, .any, .any, .any, .any, .any, .any, .any, .any, .any, .any, .any], [.ex false [.c (.sc (.bool t200.1)), .c (.sc (.int .u64 t208.1)), .c (.sc (.int .i64 t208.2)), .c (.sc (.bool t200.2.2.2))] 93, .ex false [.c (.sc (.bool t201.1)), .c (.sc (.int .u64 x215)), .c (.sc (.int .i64 x216)), .c (.sc (.bool t201.2.2.2))] 93], 0⟩
def halterref02_Div.l10_Q (t1 : Bool) (t2 : Bool) (t200 : Bool × Int × Int × Bool) (t201 : Bool × Int × Int × Bool) (t208 : Int × Int) (t : Int × Int) : Exit → St → Prop := fun e s => e = (.exit 2) ∧ s = ⟨[.any, .any, .any, .any, .any, .v (.one (.sc (.bool (!(t1 == t2))))), .v (.one (.ptr 0 ⟨0, 0, 0, 0⟩)), .v (.one (.ptr 1 ⟨0, 0, 0, 0⟩)), .any, .any, .any, .any, .any, .any, .any, .any, .any, .any, .any, .any, .any, .any, .any, .any, .any, .any, .any, .any, .any, .any, .any, .any, .any, .any, .any, .any, .any, .any, .any, .any, .any, .any, .any, .any, .any, .any, .any, .any, .any, .any, .any, .any, .any, .any, .any, .any, .any, .any, .any, .any, .any, .any, .any, .any, .any, .any, .any, .any, .any, .any, .any, .any, .any, .any, .any, .any, .any, .any, .any, .any, .any, .any, .any, .any, .any, .any, .any, .any, .any, .any, .any, .any, .any, .any, .any, .any, .any, .any, .any, .any, .any, .any, .any, .any, .any, .any, .any, .any, .any, .any, .any, .any, .any, .any, .any, .any, .any, .any, .any, .any, .any, .any, .any, .any], [.ex false [.c (.sc (.bool t200.1)), .c (.sc (.int .u64 t208.1)), .c (.sc (.int .i64 t208.2)), .c (.sc (.bool t200.2.2.2))] 93, .ex false [.c (.sc (.bool t201.1)), .c (.sc (.int .u64 t.1)), .c (.sc (.int .i64 t.2)), .c (.sc (.bool t201.2.2.2))] 93], 0⟩
theorem halterref02_Div.l10_ok (t1 : Bool) (t2 : Bool) (t200 : Bool × Int × Int × Bool) (t201 : Bool × Int × Int × Bool) (t208 : Int × Int) : ∀ (n : Nat) (x215 : Int) (x216 : Int) (r : Int × Int), halterref02_Div.l10 t1 t2 t200 t201 t208 n x215 x216 = some r → TripN cfg (cpath (Tryd.f39.body.getD .skip) [1, 1, 1, 1, 1, 1, 1, 0, 0, 0]) n (halterref02_Div.l10_S t1 t2 t200 t201 t208 x215 x216) (halterref02_Div.l10_Q t1 t2 t200 t201 t208 r) := by
  intro n
  induction n with
  | zero => intro x215 x216 r h; cases h
  | succ n ih =>
    intro x215 x216 r h
    rw [halterref02_Div.l10] at h
    refine TripN.of_run cfg_ok (k := (.br (aE 3 (.adj [.keep [5, 6, 7], .drop 2] .nil)) (.adj [.keep [5, 6, 7], .drop 2] .nil))) (to_goal (q := (True) ∧ (True) ∧ (((decide (x215 < (4503599627370496 : Int))) = true → (True ∧ (True ∧ (True ∧ (True) ∧ (True) ∧ (True) ∧ (True) ∧ (True) ∧ (True) ∧ (((True) ∧ (True) ∧ True) ∧ TripN cfg (cpath (Tryd.f39.body.getD .skip) [1, 1, 1, 1, 1, 1, 1, 0, 0, 0]) n (halterref02_Div.l10_S t1 t2 t200 t201 t208 (IntKind.wrap .u64 ((2 : Int) * x215)) (IntKind.wrap .i64 (x216 - (1 : Int)))) (halterref02_Div.l10_Q t1 t2 t200 t201 t208 r)))))) ∧ ((decide (x215 < (4503599627370496 : Int))) = false → (((True) ∧ (True) ∧ True) ∧ halterref02_Div.l10_Q t1 t2 t200 t201 t208 r (.exit 2) ⟨[.any, .any, .any, .any, .any, .v (.one (.sc (.bool (!(t1 == t2))))), .v (.one (.ptr 0 ⟨0, 0, 0, 0⟩)), .v (.one (.ptr 1 ⟨0, 0, 0, 0⟩)), .any, .any, .any, .any, .any, .any, .any, .any, .any, .any, .any, .any, .any, .any, .any, .any, .any, .any, .any, .any, .any, .any, .any, .any, .any, .any, .any, .any, .any, .any, .any, .any, .any, .any, .any, .any, .any, .any, .any, .any, .any, .any, .any, .any, .any, .any, .any, .any, .any, .any, .any, .any, .any, .any, .any, .any, .any, .any, .any, .any, .any, .any, .any, .any, .any, .any, .any, .any, .any, .any, .any, .any, .any, .any, .any, .any, .any, .any, .any, .any, .any, .any, .any, .any, .any, .any, .any, .any, .any, .any, .any, .any, .any, .any, .any, .any, .any, .any, .any, .any, .any, .any, .any, .any, .any, .any, .any, .any, .any, .any, .any, .any, .any, .any, .any, .any], [.ex false [.c (.sc (.bool t200.1)), .c (.sc (.int .u64 t208.1)), .c (.sc (.int .i64 t208.2)), .c (.sc (.bool (z3 t200)))] 93, .ex false [.c (.sc (.bool t201.1)), .c (.sc (.int .u64 x215)), .c (.sc (.int .i64 x216)), .c (.sc (.bool (z3 t201)))] 93], 0⟩)))) (by kernel_rfl) ?_)
    refine ⟨trivial, trivial, ?_⟩
    refine ⟨fun b221 => ?_, fun b221 => ?_⟩
    · rw [if_pos (of_decide_eq_true b221)] at h
      refine ⟨trivial, trivial, trivial, trivial, trivial, trivial, trivial, trivial, trivial, ?_⟩
      exact ⟨⟨trivial, trivial, trivial⟩, ih (IntKind.wrap .u64 ((2 : Int) * x215)) (IntKind.wrap .i64 (x216 - (1 : Int))) r h⟩
    · rw [if_neg (of_decide_eq_false b221)] at h
      obtain rfl := Option.some.inj h
      exact ⟨⟨trivial, trivial, trivial⟩, rfl, rfl⟩
def halterref02_Div.l11 (t1 : Bool) (t2 : Bool) (t200 : Bool × Int × Int × Bool) (t201 : Bool × Int × Int × Bool) (t208 : Int × Int) (t220 : Int × Int) : Nat → Int → Int → Int → Option (Int × Int)
  | 0, _, _, _ => none
  | n + 1, x228, x229, x230 =>
    if x230 < (60 : Int) then
      if t220.1 ≠ 0 then
        if t220.1 ≠ 0 then
          halterref02_Div.l11 t1 t2 t200 t201 t208 t220 n (IntKind.wrap .u64 ((IntKind.wrap .u64 ((2 : Int) * x228)) + (IntKind.wrap .u64 (Int.tdiv (IntKind.wrap .u64 ((2 : Int) * x229)) t220.1)))) (Int.tmod (IntKind.wrap .u64 ((2 : Int) * x229)) t220.1) (IntKind.wrap .i64 (x230 + (1 : Int)))
        else none
      else none
    else
      some (x228, x229)
def halterref02_Div.l11_S (t1 : Bool) (t2 : Bool) (t200 : Bool × Int × Int × Bool) (t201 : Bool × Int × Int × Bool) (t208 : Int × Int) (t220 : Int × Int) (x228 : Int) (x229 : Int) (x230 : Int) : St := ⟨[.any, .any, .any, .any, .any, .v (.one (.sc (.bool (!(t1 == t2))))), .v (.one (.ptr 0 ⟨0, 0, 0, 0⟩)), .v (.one (.ptr 1 ⟨0, 0, 0, 0⟩)), .v (.one (.sc (.int .u64 x228))), .v (.one (.sc (.int .u64 x229))), .v (.one (.sc (.int .i64 x230))), .any, .any, .any, .any, .any, .any, .any, .any, .any, .any, .any, .any, .any, .any, .any, .any, .any, .any, .any, .any, .any, .any, .any, .any, .any, .any, .any, .any, .any, .any, .any, .any, .any, .any, .any, .any, .any, .any, .any, .any, .any, .any, .any, .any, .any, .any, .any, .any, .any, .any, .any, .any, .any, .any, .any, .any, .any, .any, .any, .any, .any, .any, .any, .any, .any, .any, .any, .any, .any, .any, .any, .any, .any, .any, .any, .any, .any, .any, .any, .any, .any, .any, .any, .any, .any, .any, .any, .any, .any, .any, .any, .any, .any, .any, .any, .any, .any, .any, .any, .any, .any, .any, .any, .any, .any, .any, .any, .any, .any, .any, .any, .any, .any], [.ex false [.c (.sc (.bool t200.1)), .c (.sc (.int .u64 t208.1)), .c (.sc (.int .i64 t208.2)), .c (.sc (.bool t200.2.2.2))] 93, .ex false [.c (.sc (.bool t201.1)), .c (.sc (.int .u64 t220.1)), .c (.sc (.int .i64 t220.2)), .c (.sc (.bool t201.2.2.2))] 93], 0⟩
def halterref02_Div.l11_Q (t1 : Bool) (t2 : Bool) (t200 : Bool × Int × Int × Bool) (t201 : Bool × Int × Int × Bool) (t208 : Int × Int) (t220 : Int × Int) (t : Int × Int) : Exit → St → Prop := fun e s => e = (.exit 4) ∧ s = ⟨[.any, .any, .any, .any, .any, .v (.one (.sc (.bool (!(t1 == t2))))), .v (.one (.ptr 0 ⟨0, 0, 0, 0⟩)), .v (.one (.ptr 1 ⟨0, 0, 0, 0⟩)), .v (.one (.sc (.int .u64 t.1))), .v (.one (.sc (.int .u64 t.2))), .any, .any, .any, .any, .any, .any, .any, .any, .any, .any, .any, .any, .any, .any, .any, .any, .any, .any, .any, .any, .any, .any, .any, .any, .any, .any, .any, .any, .any, .any, .any, .any, .any, .any, .any, .any, .any, .any, .any, .any, .any, .any, .any, .any, .any, .any, .any, .any, .any, .any, .any, .any, .any, .any, .any, .any, .any, .any, .any, .any, .any, .any, .any, .any, .any, .any, .any, .any, .any, .any, .any, .any, .any, .any, .any, .any, .any, .any, .any, .any, .any, .any, .any, .any, .any, .any, .any, .any, .any, .any, .any, .any, .any, .any, .any, .any, .any, .any, .any, .any, .any, .any, .any, .any, .any, .any, .any, .any, .any, .any, .any, .any, .any, .any], [.ex false [.c (.sc (.bool t200.1)), .c (.sc (.int .u64 t208.1)), .c (.sc (.int .i64 t208.2)), .c (.sc (.bool t200.2.2.2))] 93, .ex false [.c (.sc (.bool t201.1)), .c (.sc (.int .u64 t220.1)), .c (.sc (.int .i64 t220.2)), .c (.sc (.bool t201.2.2.2))] 93], 0⟩
end Go.Proofs.YtfoejbiifolnnaaDoorGAluFloats
