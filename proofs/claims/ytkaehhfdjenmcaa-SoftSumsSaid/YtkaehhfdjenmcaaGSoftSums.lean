/- Printed by gen.py: the next part. -/
import Derived.Test.YtkaehhfdjenmcaaGSoftSumsp0
set_option linter.unusedVariables false
set_option maxRecDepth 100000
set_option maxHeartbeats 4000000
namespace Go.Proofs.YtkaehhfdjenmcaaGSoftSums
open Go Go.Proofs.YtkaehhfdjenmcaaE
theorem halterref02_Add.fun_ {a0 : Int} {a1 : Int} {r : Int} (h : halterref02_Add.f a0 a1 = some r) : Fun cfg 17 [.one (.sc (.int .u64 a0)), .one (.sc (.int .u64 a1))] [] (halterref02_Add.R r) [] := by
  unfold halterref02_Add.f at h
  refine fun_of_run cfg_ok (f := 17) (fn := Try.f17) Try.func17 rfl (by kernel_rfl) (rs := [.tmp 4]) rfl (nt := 191) rfl (l := fin) (k := (.call true [] (Bool) (fun t1 => halterref02_none.R t1) (fun t1 => (.br (.adj [] (.adj [] (.adj [] .nil))) (.call true [] (Int) (fun t3 => halterref02_Class.R t3) (fun t3 => (.br (.call true [] (Int) (fun t5 => halterref02_Class.R t5) (fun t5 => (.br (.one true (.call true [] (Bool) (fun t7 => halterref02_Neg.R t7) (fun t7 => (.one true (.one true (.call true [] (Bool) (fun t8 => halterref02_Neg.R t8) (fun t8 => (.one true (.one true (.br (.adj [] (.adj [] (.adj [] .nil))) (.adj [] (.adj [] (.adj [] (.adj [] .nil)))))))))))))) (.one false (.one false (.one false (.one false (.one false (.one false (.adj [] (.adj [] (.adj [] (.adj [] .nil))))))))))))) (.call true [] (Int) (fun t10 => halterref02_Class.R t10) (fun t10 => (.br (.adj [] (.adj [] (.adj [] .nil))) (.call true [] (Bool × Int × Int × Bool) (fun t12 => halterref02_Open.R t12) (fun t12 => (.call true [] (Bool × Int × Int × Bool) (fun t13 => halterref02_Open.R t13) (fun t13 => (.br (.one true (.one true (.one true (.br (.br (.one true (.one true (.call true [] (Int) (fun t17 => halterref02_signed.R t17) (fun t17 => (.adj [] (.adj [.drop 0] .nil)))))) (.one false (.one false (.call true [] (Int) (fun t18 => halterref02_signed.R t18) (fun t18 => (.adj [] (.adj [.drop 0] .nil))))))) (.one true (.adj [] (.adj [] (.adj [.drop 0] .nil)))))))) (.one false (.one false (.one false (.one false (.one false (.br (.adj [] (.adj [] (.adj [.drop 0] .nil))) (.br (.one true (.one true (.one true (.one true (.one true (.one true (.one true (.one true (.adj [] (.adj [] (.adj [] (.adj [] (.adj [] (.adj [.keep [5, 6, 7]] (.sub (TY0) (fun _ => (.exit 0)) (fun t62 => ⟨[.any, .any, .any, .any, .any, .v (.one (.ptr 0 ⟨0, 0, 0, 0⟩)), .v (.one (.ptr 1 ⟨0, 0, 0, 0⟩)), .v (.one (.sc (.bool (z4 t62)))), .any, .any, .any, .any, .any, .any, .any, .any, .any, .any, .any, .any, .any, .any, .any, .any, .any, .any, .any, .any, .any, .any, .any, .any, .any, .any, .any, .any, .any, .any, .any, .any, .any, .any, .any, .any, .any, .any, .any, .any, .any, .any, .any, .any, .any, .any, .any, .any, .any, .any, .any, .any, .any, .any, .any, .any, .any, .any, .any, .any, .any, .any, .any, .any, .any, .any, .any, .any, .any, .any, .any, .any, .any, .any, .any, .any, .any, .any, .any, .any, .any, .any, .any, .any, .any, .any, .any, .any, .any, .any, .any, .any, .any, .any, .any, .any, .any, .any, .any, .any, .any, .any, .any, .any, .any, .any, .any, .any, .any, .any, .any, .any, .any, .any, .any, .any, .any, .any, .any, .any, .any, .any, .any, .any, .any, .any, .any, .any, .any, .any, .any, .any, .any, .any, .any, .any, .any, .any, .any, .any, .any, .any, .any, .any, .any, .any, .any, .any, .any, .any, .any, .any, .any, .any, .any, .any, .any, .any, .any, .any, .any, .any, .any, .any, .any, .any, .any, .any, .any, .any, .any, .any, .any, .any, .any, .any, .any, .any, .any, .any, .any, .any, .any], [.ex false [.c (.sc (.bool t13.1)), .c (.sc (.int .u64 t62.1)), .c (.sc (.int .i64 t62.2.1)), .c (.sc (.bool (z3 t13)))] 44, .ex false [.c (.sc (.bool t12.1)), .c (.sc (.int .u64 (p2 t62))), .c (.sc (.int .i64 (p3 t62))), .c (.sc (.bool (z3 t12)))] 44], 0⟩) (fun t62 => (.br (.call true [] (Int) (fun t83 => halterref02_Round.R t83) (fun t83 => (.adj [] (.adj [.drop 0] .nil)))) (.br (.call true [] (Int) (fun t85 => halterref02_Round.R t85) (fun t85 => (.adj [] (.adj [.drop 0] .nil)))) (.br (.br (.one true (.one true (.one false (.call true [] (Int) (fun t88 => halterref02_Round.R t88) (fun t88 => (.adj [] (.adj [.drop 0] .nil))))))) (.one false (.one false (.one false (.call true [] (Int) (fun t89 => halterref02_Round.R t89) (fun t89 => (.adj [] (.adj [.drop 0] .nil)))))))) (.br (.one true (.one true (.one true (.adj [] (.adj [] (.adj [.drop 0] .nil)))))) (.one false (.one false (.one false (.call true [] (Int) (fun t91 => halterref02_Round.R t91) (fun t91 => (.adj [] (.adj [.drop 0] .nil))))))))))))))))))))))))))) (.one false (.one false (.one false (.one false (.one false (.br (.one true (.one true (.one true (.one true (.one false (.one true (.one false (.br (.adj [] (.adj [] (.adj [] (.adj [] (.adj [] (.adj [.keep [5, 6, 7]] (.sub (TY0) (fun _ => (.exit 0)) (fun t135 => ⟨[.any, .any, .any, .any, .any, .v (.one (.ptr 0 ⟨0, 0, 0, 0⟩)), .v (.one (.ptr 1 ⟨0, 0, 0, 0⟩)), .v (.one (.sc (.bool (z4 t135)))), .any, .any, .any, .any, .any, .any, .any, .any, .any, .any, .any, .any, .any, .any, .any, .any, .any, .any, .any, .any, .any, .any, .any, .any, .any, .any, .any, .any, .any, .any, .any, .any, .any, .any, .any, .any, .any, .any, .any, .any, .any, .any, .any, .any, .any, .any, .any, .any, .any, .any, .any, .any, .any, .any, .any, .any, .any, .any, .any, .any, .any, .any, .any, .any, .any, .any, .any, .any, .any, .any, .any, .any, .any, .any, .any, .any, .any, .any, .any, .any, .any, .any, .any, .any, .any, .any, .any, .any, .any, .any, .any, .any, .any, .any, .any, .any, .any, .any, .any, .any, .any, .any, .any, .any, .any, .any, .any, .any, .any, .any, .any, .any, .any, .any, .any, .any, .any, .any, .any, .any, .any, .any, .any, .any, .any, .any, .any, .any, .any, .any, .any, .any, .any, .any, .any, .any, .any, .any, .any, .any, .any, .any, .any, .any, .any, .any, .any, .any, .any, .any, .any, .any, .any, .any, .any, .any, .any, .any, .any, .any, .any, .any, .any, .any, .any, .any, .any, .any, .any, .any, .any, .any, .any, .any, .any, .any, .any, .any, .any, .any, .any, .any, .any], [.ex false [.c (.sc (.bool t13.1)), .c (.sc (.int .u64 t135.1)), .c (.sc (.int .i64 t135.2.1)), .c (.sc (.bool (z3 t13)))] 44, .ex false [.c (.sc (.bool t12.1)), .c (.sc (.int .u64 (p2 t135))), .c (.sc (.int .i64 (p3 t135))), .c (.sc (.bool (z3 t12)))] 44], 0⟩) (fun t135 => (.br (.call true [] (Int) (fun t156 => halterref02_Round.R t156) (fun t156 => (.adj [] (.adj [.drop 0] .nil)))) (.br (.call true [] (Int) (fun t158 => halterref02_Round.R t158) (fun t158 => (.adj [] (.adj [.drop 0] .nil)))) (.br (.br (.one true (.one true (.one false (.call true [] (Int) (fun t161 => halterref02_Round.R t161) (fun t161 => (.adj [] (.adj [.drop 0] .nil))))))) (.one false (.one false (.one false (.call true [] (Int) (fun t162 => halterref02_Round.R t162) (fun t162 => (.adj [] (.adj [.drop 0] .nil)))))))) (.br (.one true (.one true (.one true (.adj [] (.adj [] (.adj [.drop 0] .nil)))))) (.one false (.one false (.one false (.call true [] (Int) (fun t164 => halterref02_Round.R t164) (fun t164 => (.adj [] (.adj [.drop 0] .nil))))))))))))))))))) (.adj [] (.adj [] (.adj [] (.adj [] (.adj [] (.adj [.keep [5, 6, 7]] (.sub (TY0) (fun _ => (.exit 0)) (fun t206 => ⟨[.any, .any, .any, .any, .any, .v (.one (.ptr 0 ⟨0, 0, 0, 0⟩)), .v (.one (.ptr 1 ⟨0, 0, 0, 0⟩)), .v (.one (.sc (.bool (z4 t206)))), .any, .any, .any, .any, .any, .any, .any, .any, .any, .any, .any, .any, .any, .any, .any, .any, .any, .any, .any, .any, .any, .any, .any, .any, .any, .any, .any, .any, .any, .any, .any, .any, .any, .any, .any, .any, .any, .any, .any, .any, .any, .any, .any, .any, .any, .any, .any, .any, .any, .any, .any, .any, .any, .any, .any, .any, .any, .any, .any, .any, .any, .any, .any, .any, .any, .any, .any, .any, .any, .any, .any, .any, .any, .any, .any, .any, .any, .any, .any, .any, .any, .any, .any, .any, .any, .any, .any, .any, .any, .any, .any, .any, .any, .any, .any, .any, .any, .any, .any, .any, .any, .any, .any, .any, .any, .any, .any, .any, .any, .any, .any, .any, .any, .any, .any, .any, .any, .any, .any, .any, .any, .any, .any, .any, .any, .any, .any, .any, .any, .any, .any, .any, .any, .any, .any, .any, .any, .any, .any, .any, .any, .any, .any, .any, .any, .any, .any, .any, .any, .any, .any, .any, .any, .any, .any, .any, .any, .any, .any, .any, .any, .any, .any, .any, .any, .any, .any, .any, .any, .any, .any, .any, .any, .any, .any, .any, .any, .any, .any, .any, .any, .any, .any], [.ex false [.c (.sc (.bool t12.1)), .c (.sc (.int .u64 t206.1)), .c (.sc (.int .i64 t206.2.1)), .c (.sc (.bool (z3 t12)))] 44, .ex false [.c (.sc (.bool t13.1)), .c (.sc (.int .u64 (p2 t206))), .c (.sc (.int .i64 (p3 t206))), .c (.sc (.bool (z3 t13)))] 44], 0⟩) (fun t206 => (.br (.call true [] (Int) (fun t227 => halterref02_Round.R t227) (fun t227 => (.adj [] (.adj [.drop 0] .nil)))) (.br (.call true [] (Int) (fun t229 => halterref02_Round.R t229) (fun t229 => (.adj [] (.adj [.drop 0] .nil)))) (.br (.br (.one true (.one true (.one false (.call true [] (Int) (fun t232 => halterref02_Round.R t232) (fun t232 => (.adj [] (.adj [.drop 0] .nil))))))) (.one false (.one false (.one false (.call true [] (Int) (fun t233 => halterref02_Round.R t233) (fun t233 => (.adj [] (.adj [.drop 0] .nil)))))))) (.br (.one true (.one true (.one true (.adj [] (.adj [] (.adj [.drop 0] .nil)))))) (.one false (.one false (.one false (.call true [] (Int) (fun t235 => halterref02_Round.R t235) (fun t235 => (.adj [] (.adj [.drop 0] .nil))))))))))))))))))))))))))) (.one false (.one false (.one false (.one false (.one false (.one false (.one false (.one false (.adj [] (.adj [] (.adj [] (.adj [] (.adj [] (.adj [.keep [5, 6, 7]] (.sub (TY0) (fun _ => (.exit 0)) (fun t277 => ⟨[.any, .any, .any, .any, .any, .v (.one (.ptr 0 ⟨0, 0, 0, 0⟩)), .v (.one (.ptr 1 ⟨0, 0, 0, 0⟩)), .v (.one (.sc (.bool (z4 t277)))), .any, .any, .any, .any, .any, .any, .any, .any, .any, .any, .any, .any, .any, .any, .any, .any, .any, .any, .any, .any, .any, .any, .any, .any, .any, .any, .any, .any, .any, .any, .any, .any, .any, .any, .any, .any, .any, .any, .any, .any, .any, .any, .any, .any, .any, .any, .any, .any, .any, .any, .any, .any, .any, .any, .any, .any, .any, .any, .any, .any, .any, .any, .any, .any, .any, .any, .any, .any, .any, .any, .any, .any, .any, .any, .any, .any, .any, .any, .any, .any, .any, .any, .any, .any, .any, .any, .any, .any, .any, .any, .any, .any, .any, .any, .any, .any, .any, .any, .any, .any, .any, .any, .any, .any, .any, .any, .any, .any, .any, .any, .any, .any, .any, .any, .any, .any, .any, .any, .any, .any, .any, .any, .any, .any, .any, .any, .any, .any, .any, .any, .any, .any, .any, .any, .any, .any, .any, .any, .any, .any, .any, .any, .any, .any, .any, .any, .any, .any, .any, .any, .any, .any, .any, .any, .any, .any, .any, .any, .any, .any, .any, .any, .any, .any, .any, .any, .any, .any, .any, .any, .any, .any, .any, .any, .any, .any, .any, .any, .any, .any, .any, .any, .any], [.ex false [.c (.sc (.bool t12.1)), .c (.sc (.int .u64 t277.1)), .c (.sc (.int .i64 t277.2.1)), .c (.sc (.bool (z3 t12)))] 44, .ex false [.c (.sc (.bool t13.1)), .c (.sc (.int .u64 (p2 t277))), .c (.sc (.int .i64 (p3 t277))), .c (.sc (.bool (z3 t13)))] 44], 0⟩) (fun t277 => (.br (.call true [] (Int) (fun t298 => halterref02_Round.R t298) (fun t298 => (.adj [] (.adj [.drop 0] .nil)))) (.br (.call true [] (Int) (fun t300 => halterref02_Round.R t300) (fun t300 => (.adj [] (.adj [.drop 0] .nil)))) (.br (.br (.one true (.one true (.one false (.call true [] (Int) (fun t303 => halterref02_Round.R t303) (fun t303 => (.adj [] (.adj [.drop 0] .nil))))))) (.one false (.one false (.one false (.call true [] (Int) (fun t304 => halterref02_Round.R t304) (fun t304 => (.adj [] (.adj [.drop 0] .nil)))))))) (.br (.one true (.one true (.one true (.adj [] (.adj [] (.adj [.drop 0] .nil)))))) (.one false (.one false (.one false (.call true [] (Int) (fun t306 => halterref02_Round.R t306) (fun t306 => (.adj [] (.adj [.drop 0] .nil))))))))))))))))))))))))))))))))))))))))))))))))))))))) (to_goal (q := (∃ t1 : Bool, (Fun cfg 39 [.one (.sc (.int .u64 a0)), .one (.sc (.int .u64 a1))] [] (halterref02_none.R t1) [] ∧ True) ∧ ((t1 = true → (True ∧ (True ∧ ((True) ∧ (True) ∧ (.v (.one (.sc (.int .u64 (9221120237041090560 : Int)))) : Tm) = halterref02_Add.R r ∧ ([] : List Box) = [])))) ∧ (t1 = false → (∃ t3 : Int, (Fun cfg 21 [.one (.sc (.int .u64 a0))] [] (halterref02_Class.R t3) [] ∧ True) ∧ (True) ∧ (((t3 == (3 : Int)) = true → (∃ t5 : Int, (Fun cfg 21 [.one (.sc (.int .u64 a1))] [] (halterref02_Class.R t5) [] ∧ True) ∧ (True) ∧ (((t5 == (3 : Int)) = true → ((t5 == (3 : Int)) = true ∧ (∃ t7 : Bool, (Fun cfg 38 [.one (.sc (.int .u64 a0))] [] (halterref02_Neg.R t7) [] ∧ True) ∧ ((t5 == (3 : Int)) = true ∧ ((t5 == (3 : Int)) = true ∧ (∃ t8 : Bool, (Fun cfg 38 [.one (.sc (.int .u64 a1))] [] (halterref02_Neg.R t8) [] ∧ True) ∧ ((t5 == (3 : Int)) = true ∧ (True) ∧ ((t5 == (3 : Int)) = true ∧ (((!(t7 == t8)) = true → (True ∧ (True ∧ ((True) ∧ (True) ∧ (.v (.one (.sc (.int .u64 (9221120237041090560 : Int)))) : Tm) = halterref02_Add.R r ∧ ([] : List Box) = [])))) ∧ ((!(t7 == t8)) = false → (True ∧ (True ∧ (True ∧ ((True) ∧ (True) ∧ (.v (.one (.sc (.int .u64 a0))) : Tm) = halterref02_Add.R r ∧ ([] : List Box) = [])))))))))))))) ∧ ((t5 == (3 : Int)) = false → ((t5 == (3 : Int)) = false ∧ ((t5 == (3 : Int)) = false ∧ ((t5 == (3 : Int)) = false ∧ ((t5 == (3 : Int)) = false ∧ ((t5 == (3 : Int)) = false ∧ (false = false ∧ (True ∧ (True ∧ (True ∧ ((True) ∧ (True) ∧ (.v (.one (.sc (.int .u64 a0))) : Tm) = halterref02_Add.R r ∧ ([] : List Box) = [])))))))))))))) ∧ ((t3 == (3 : Int)) = false → (∃ t10 : Int, (Fun cfg 21 [.one (.sc (.int .u64 a1))] [] (halterref02_Class.R t10) [] ∧ True) ∧ (True) ∧ (((t10 == (3 : Int)) = true → (True ∧ (True ∧ ((True) ∧ (True) ∧ (.v (.one (.sc (.int .u64 a1))) : Tm) = halterref02_Add.R r ∧ ([] : List Box) = [])))) ∧ ((t10 == (3 : Int)) = false → (∃ t12 : Bool × Int × Int × Bool, (Fun cfg 41 [.one (.sc (.int .u64 a0))] [] (halterref02_Open.R t12) [] ∧ True) ∧ (∃ t13 : Bool × Int × Int × Bool, (Fun cfg 41 [.one (.sc (.int .u64 a1))] [] (halterref02_Open.R t13) [] ∧ True) ∧ (True) ∧ (True) ∧ (True) ∧ (True) ∧ (((t12.2.1 == (0 : Int)) = true → ((t12.2.1 == (0 : Int)) = true ∧ (True) ∧ ((t12.2.1 == (0 : Int)) = true ∧ (True) ∧ ((t12.2.1 == (0 : Int)) = true ∧ (((t13.2.1 == (0 : Int)) = true → (True) ∧ ((t12.1 = true → (t12.1 = true ∧ (True) ∧ (t12.1 = true ∧ (∃ t17 : Int, (Fun cfg 40 [.one (.sc (.bool t13.1)), .one (.sc (.int .u64 (0 : Int)))] [] (halterref02_signed.R t17) [] ∧ True) ∧ (True ∧ ((True) ∧ ((True) ∧ True) ∧ (.v (.one (.sc (.int .u64 t17))) : Tm) = halterref02_Add.R r ∧ ([] : List Box) = [])))))) ∧ (t12.1 = false → (t12.1 = false ∧ (t12.1 = false ∧ (∃ t18 : Int, (Fun cfg 40 [.one (.sc (.bool false)), .one (.sc (.int .u64 (0 : Int)))] [] (halterref02_signed.R t18) [] ∧ True) ∧ (True ∧ ((True) ∧ ((True) ∧ True) ∧ (.v (.one (.sc (.int .u64 t18))) : Tm) = halterref02_Add.R r ∧ ([] : List Box) = [])))))))) ∧ ((t13.2.1 == (0 : Int)) = false → (True) ∧ (True) ∧ ((t12.2.1 == (0 : Int)) = true ∧ (True ∧ (True ∧ ((True) ∧ ((True) ∧ True) ∧ (.v (.one (.sc (.int .u64 a1))) : Tm) = halterref02_Add.R r ∧ ([] : List Box) = [])))))))))) ∧ ((t12.2.1 == (0 : Int)) = false → ((t12.2.1 == (0 : Int)) = false ∧ ((t12.2.1 == (0 : Int)) = false ∧ ((t12.2.1 == (0 : Int)) = false ∧ (false = false ∧ (True) ∧ (True) ∧ ((t12.2.1 == (0 : Int)) = false ∧ (True) ∧ (True) ∧ (((t13.2.1 == (0 : Int)) = true → (True ∧ (True ∧ ((True) ∧ ((True) ∧ True) ∧ (.v (.one (.sc (.int .u64 a0))) : Tm) = halterref02_Add.R r ∧ ([] : List Box) = [])))) ∧ ((t13.2.1 == (0 : Int)) = false → (True) ∧ (True) ∧ (True) ∧ (((decide ((p2 t12) < (p2 t13))) = false → ((decide ((p2 t12) < (p2 t13))) = false ∧ (True) ∧ ((decide ((p2 t12) < (p2 t13))) = false ∧ ((decide ((p2 t12) < (p2 t13))) = false ∧ (True) ∧ ((decide ((p2 t12) < (p2 t13))) = false ∧ (True) ∧ ((decide ((p2 t12) < (p2 t13))) = false ∧ ((((p2 t12) == (p2 t13)) = true → (((p2 t12) == (p2 t13)) = true ∧ (True) ∧ (((p2 t12) == (p2 t13)) = true ∧ (((p2 t12) == (p2 t13)) = true ∧ (True) ∧ (((p2 t12) == (p2 t13)) = true ∧ (True) ∧ ((decide ((p2 t12) < (p2 t13))) = false ∧ (((p2 t12) == (p2 t13)) = true ∧ ((decide ((p2 t12) < (p2 t13))) = false ∧ (((decide (t12.2.1 < t13.2.1)) = true → (True ∧ (True) ∧ (True) ∧ (True) ∧ (True) ∧ (True ∧ (True) ∧ (True) ∧ (True) ∧ (True) ∧ (True) ∧ (True) ∧ (True ∧ (True) ∧ (True) ∧ (True) ∧ (True) ∧ (True) ∧ (True) ∧ (True ∧ (True ∧ (((True) ∧ True) ∧ (∃ t135 : TY0, Trip cfg (.loop (cpath (Try.f17.body.getD .skip) [1, 1, 1, 1, 1, 1, 1, 1, 1, 1, 1, 1, 0, 0, 0])) ⟨[.any, .any, .any, .any, .any, .v (.one (.ptr 0 ⟨0, 0, 0, 0⟩)), .v (.one (.ptr 1 ⟨0, 0, 0, 0⟩)), .v (.one (.sc (.bool false))), .any, .any, .any, .any, .any, .any, .any, .any, .any, .any, .any, .any, .any, .any, .any, .any, .any, .any, .any, .any, .any, .any, .any, .any, .any, .any, .any, .any, .any, .any, .any, .any, .any, .any, .any, .any, .any, .any, .any, .any, .any, .any, .any, .any, .any, .any, .any, .any, .any, .any, .any, .any, .any, .any, .any, .any, .any, .any, .any, .any, .any, .any, .any, .any, .any, .any, .any, .any, .any, .any, .any, .any, .any, .any, .any, .any, .any, .any, .any, .any, .any, .any, .any, .any, .any, .any, .any, .any, .any, .any, .any, .any, .any, .any, .any, .any, .any, .any, .any, .any, .any, .any, .any, .any, .any, .any, .any, .any, .any, .any, .any, .any, .any, .any, .any, .any, .any, .any, .any, .any, .any, .any, .any, .any, .any, .any, .any, .any, .any, .any, .any, .any, .any, .any, .any, .any, .any, .any, .any, .any, .any, .any, .any, .any, .any, .any, .any, .any, .any, .any, .any, .any, .any, .any, .any, .any, .any, .any, .any, .any, .any, .any, .any, .any, .any, .any, .any, .any, .any, .any, .any, .any, .any, .any, .any, .any, .any, .any, .any, .any, .any, .any, .any], [.ex false [.c (.sc (.bool t13.1)), .c (.sc (.int .u64 (IntKind.wrap .u64 ((256 : Int) * t13.2.1)))), .c (.sc (.int .i64 (IntKind.wrap .i64 ((p2 t13) - (8 : Int))))), .c (.sc (.bool (z3 t13)))] 44, .ex false [.c (.sc (.bool t12.1)), .c (.sc (.int .u64 (IntKind.wrap .u64 ((256 : Int) * t12.2.1)))), .c (.sc (.int .i64 (IntKind.wrap .i64 ((p2 t12) - (8 : Int))))), .c (.sc (.bool (z3 t12)))] 44], 0⟩ (fun e s => e = (.exit 0) ∧ s = ⟨[.any, .any, .any, .any, .any, .v (.one (.ptr 0 ⟨0, 0, 0, 0⟩)), .v (.one (.ptr 1 ⟨0, 0, 0, 0⟩)), .v (.one (.sc (.bool (z4 t135)))), .any, .any, .any, .any, .any, .any, .any, .any, .any, .any, .any, .any, .any, .any, .any, .any, .any, .any, .any, .any, .any, .any, .any, .any, .any, .any, .any, .any, .any, .any, .any, .any, .any, .any, .any, .any, .any, .any, .any, .any, .any, .any, .any, .any, .any, .any, .any, .any, .any, .any, .any, .any, .any, .any, .any, .any, .any, .any, .any, .any, .any, .any, .any, .any, .any, .any, .any, .any, .any, .any, .any, .any, .any, .any, .any, .any, .any, .any, .any, .any, .any, .any, .any, .any, .any, .any, .any, .any, .any, .any, .any, .any, .any, .any, .any, .any, .any, .any, .any, .any, .any, .any, .any, .any, .any, .any, .any, .any, .any, .any, .any, .any, .any, .any, .any, .any, .any, .any, .any, .any, .any, .any, .any, .any, .any, .any, .any, .any, .any, .any, .any, .any, .any, .any, .any, .any, .any, .any, .any, .any, .any, .any, .any, .any, .any, .any, .any, .any, .any, .any, .any, .any, .any, .any, .any, .any, .any, .any, .any, .any, .any, .any, .any, .any, .any, .any, .any, .any, .any, .any, .any, .any, .any, .any, .any, .any, .any, .any, .any, .any, .any, .any, .any], [.ex false [.c (.sc (.bool t13.1)), .c (.sc (.int .u64 t135.1)), .c (.sc (.int .i64 t135.2.1)), .c (.sc (.bool (z3 t13)))] 44, .ex false [.c (.sc (.bool t12.1)), .c (.sc (.int .u64 (p2 t135))), .c (.sc (.int .i64 (p3 t135))), .c (.sc (.bool (z3 t12)))] 44], 0⟩) ∧ (True) ∧ (True) ∧ (True) ∧ (((t13.1 == t12.1) = true → (True) ∧ (True) ∧ (True) ∧ (True) ∧ (True) ∧ (∃ t156 : Int, (Fun cfg 43 [.agg [.c (.sc (.bool t13.1)), .c (.sc (.int .u64 (IntKind.wrap .u64 (t135.1 + (p2 t135))))), .c (.sc (.int .i64 t135.2.1)), .c (.sc (.bool (z4 t135)))]] [] (halterref02_Round.R t156) [] ∧ True) ∧ (True ∧ ((True) ∧ ((True) ∧ True) ∧ (.v (.one (.sc (.int .u64 t156))) : Tm) = halterref02_Add.R r ∧ ([] : List Box) = [])))) ∧ ((t13.1 == t12.1) = false → (True) ∧ (True) ∧ (True) ∧ (((decide (t135.1 < (p2 t135))) = true → (True) ∧ (True) ∧ (True) ∧ (True) ∧ (True) ∧ (∃ t158 : Int, (Fun cfg 43 [.agg [.c (.sc (.bool t12.1)), .c (.sc (.int .u64 (IntKind.wrap .u64 ((p2 t135) - t135.1)))), .c (.sc (.int .i64 t135.2.1)), .c (.sc (.bool false))]] [] (halterref02_Round.R t158) [] ∧ True) ∧ (True ∧ ((True) ∧ ((True) ∧ True) ∧ (.v (.one (.sc (.int .u64 t158))) : Tm) = halterref02_Add.R r ∧ ([] : List Box) = [])))) ∧ ((decide (t135.1 < (p2 t135))) = false → (True) ∧ (True) ∧ (True) ∧ (((z4 t135) = true → (True) ∧ (True) ∧ ((((IntKind.wrap .u64 ((IntKind.wrap .u64 (t135.1 - (p2 t135))) - (1 : Int))) == (0 : Int)) = true → (((IntKind.wrap .u64 ((IntKind.wrap .u64 (t135.1 - (p2 t135))) - (1 : Int))) == (0 : Int)) = true ∧ (((IntKind.wrap .u64 ((IntKind.wrap .u64 (t135.1 - (p2 t135))) - (1 : Int))) == (0 : Int)) = true ∧ ((!(z4 t135)) = false ∧ (True) ∧ (True) ∧ (∃ t161 : Int, (Fun cfg 43 [.agg [.c (.sc (.bool t13.1)), .c (.sc (.int .u64 (IntKind.wrap .u64 ((IntKind.wrap .u64 (t135.1 - (p2 t135))) - (1 : Int))))), .c (.sc (.int .i64 t135.2.1)), .c (.sc (.bool (z4 t135)))]] [] (halterref02_Round.R t161) [] ∧ True) ∧ (True ∧ ((True) ∧ ((True) ∧ True) ∧ (.v (.one (.sc (.int .u64 t161))) : Tm) = halterref02_Add.R r ∧ ([] : List Box) = []))))))) ∧ (((IntKind.wrap .u64 ((IntKind.wrap .u64 (t135.1 - (p2 t135))) - (1 : Int))) == (0 : Int)) = false → (((IntKind.wrap .u64 ((IntKind.wrap .u64 (t135.1 - (p2 t135))) - (1 : Int))) == (0 : Int)) = false ∧ (((IntKind.wrap .u64 ((IntKind.wrap .u64 (t135.1 - (p2 t135))) - (1 : Int))) == (0 : Int)) = false ∧ (false = false ∧ (True) ∧ (True) ∧ (∃ t162 : Int, (Fun cfg 43 [.agg [.c (.sc (.bool t13.1)), .c (.sc (.int .u64 (IntKind.wrap .u64 ((IntKind.wrap .u64 (t135.1 - (p2 t135))) - (1 : Int))))), .c (.sc (.int .i64 t135.2.1)), .c (.sc (.bool (z4 t135)))]] [] (halterref02_Round.R t162) [] ∧ True) ∧ (True ∧ ((True) ∧ ((True) ∧ True) ∧ (.v (.one (.sc (.int .u64 t162))) : Tm) = halterref02_Add.R r ∧ ([] : List Box) = []))))))))) ∧ ((z4 t135) = false → (True) ∧ ((((IntKind.wrap .u64 (t135.1 - (p2 t135))) == (0 : Int)) = true → (((IntKind.wrap .u64 (t135.1 - (p2 t135))) == (0 : Int)) = true ∧ (((IntKind.wrap .u64 (t135.1 - (p2 t135))) == (0 : Int)) = true ∧ ((!(z4 t135)) = true ∧ (True ∧ (True ∧ ((True) ∧ ((True) ∧ True) ∧ (.v (.one (.sc (.int .u64 (0 : Int)))) : Tm) = halterref02_Add.R r ∧ ([] : List Box) = []))))))) ∧ (((IntKind.wrap .u64 (t135.1 - (p2 t135))) == (0 : Int)) = false → (((IntKind.wrap .u64 (t135.1 - (p2 t135))) == (0 : Int)) = false ∧ (((IntKind.wrap .u64 (t135.1 - (p2 t135))) == (0 : Int)) = false ∧ (false = false ∧ (True) ∧ (True) ∧ (∃ t164 : Int, (Fun cfg 43 [.agg [.c (.sc (.bool t13.1)), .c (.sc (.int .u64 (IntKind.wrap .u64 (t135.1 - (p2 t135))))), .c (.sc (.int .i64 t135.2.1)), .c (.sc (.bool (z4 t135)))]] [] (halterref02_Round.R t164) [] ∧ True) ∧ (True ∧ ((True) ∧ ((True) ∧ True) ∧ (.v (.one (.sc (.int .u64 t164))) : Tm) = halterref02_Add.R r ∧ ([] : List Box) = [])))))))))))))))))))))) ∧ ((decide (t12.2.1 < t13.2.1)) = false → (True ∧ (True ∧ (True) ∧ (True) ∧ (True) ∧ (True) ∧ (True) ∧ (True) ∧ (True ∧ (True) ∧ (True) ∧ (True) ∧ (True) ∧ (True) ∧ (True) ∧ (True ∧ (True ∧ (((True) ∧ True) ∧ (∃ t206 : TY0, Trip cfg (.loop (cpath (Try.f17.body.getD .skip) [1, 1, 1, 1, 1, 1, 1, 1, 1, 1, 1, 1, 0, 0, 0])) ⟨[.any, .any, .any, .any, .any, .v (.one (.ptr 0 ⟨0, 0, 0, 0⟩)), .v (.one (.ptr 1 ⟨0, 0, 0, 0⟩)), .v (.one (.sc (.bool false))), .any, .any, .any, .any, .any, .any, .any, .any, .any, .any, .any, .any, .any, .any, .any, .any, .any, .any, .any, .any, .any, .any, .any, .any, .any, .any, .any, .any, .any, .any, .any, .any, .any, .any, .any, .any, .any, .any, .any, .any, .any, .any, .any, .any, .any, .any, .any, .any, .any, .any, .any, .any, .any, .any, .any, .any, .any, .any, .any, .any, .any, .any, .any, .any, .any, .any, .any, .any, .any, .any, .any, .any, .any, .any, .any, .any, .any, .any, .any, .any, .any, .any, .any, .any, .any, .any, .any, .any, .any, .any, .any, .any, .any, .any, .any, .any, .any, .any, .any, .any, .any, .any, .any, .any, .any, .any, .any, .any, .any, .any, .any, .any, .any, .any, .any, .any, .any, .any, .any, .any, .any, .any, .any, .any, .any, .any, .any, .any, .any, .any, .any, .any, .any, .any, .any, .any, .any, .any, .any, .any, .any, .any, .any, .any, .any, .any, .any, .any, .any, .any, .any, .any, .any, .any, .any, .any, .any, .any, .any, .any, .any, .any, .any, .any, .any, .any, .any, .any, .any, .any, .any, .any, .any, .any, .any, .any, .any, .any, .any, .any, .any, .any, .any], [.ex false [.c (.sc (.bool t12.1)), .c (.sc (.int .u64 (IntKind.wrap .u64 ((256 : Int) * t12.2.1)))), .c (.sc (.int .i64 (IntKind.wrap .i64 ((p2 t12) - (8 : Int))))), .c (.sc (.bool (z3 t12)))] 44, .ex false [.c (.sc (.bool t13.1)), .c (.sc (.int .u64 (IntKind.wrap .u64 ((256 : Int) * t13.2.1)))), .c (.sc (.int .i64 (IntKind.wrap .i64 ((p2 t13) - (8 : Int))))), .c (.sc (.bool (z3 t13)))] 44], 0⟩ (fun e s => e = (.exit 0) ∧ s = ⟨[.any, .any, .any, .any, .any, .v (.one (.ptr 0 ⟨0, 0, 0, 0⟩)), .v (.one (.ptr 1 ⟨0, 0, 0, 0⟩)), .v (.one (.sc (.bool (z4 t206)))), .any, .any, .any, .any, .any, .any, .any, .any, .any, .any, .any, .any, .any, .any, .any, .any, .any, .any, .any, .any, .any, .any, .any, .any, .any, .any, .any, .any, .any, .any, .any, .any, .any, .any, .any, .any, .any, .any, .any, .any, .any, .any, .any, .any, .any, .any, .any, .any, .any, .any, .any, .any, .any, .any, .any, .any, .any, .any, .any, .any, .any, .any, .any, .any, .any, .any, .any, .any, .any, .any, .any, .any, .any, .any, .any, .any, .any, .any, .any, .any, .any, .any, .any, .any, .any, .any, .any, .any, .any, .any, .any, .any, .any, .any, .any, .any, .any, .any, .any, .any, .any, .any, .any, .any, .any, .any, .any, .any, .any, .any, .any, .any, .any, .any, .any, .any, .any, .any, .any, .any, .any, .any, .any, .any, .any, .any, .any, .any, .any, .any, .any, .any, .any, .any, .any, .any, .any, .any, .any, .any, .any, .any, .any, .any, .any, .any, .any, .any, .any, .any, .any, .any, .any, .any, .any, .any, .any, .any, .any, .any, .any, .any, .any, .any, .any, .any, .any, .any, .any, .any, .any, .any, .any, .any, .any, .any, .any, .any, .any, .any, .any, .any, .any], [.ex false [.c (.sc (.bool t12.1)), .c (.sc (.int .u64 t206.1)), .c (.sc (.int .i64 t206.2.1)), .c (.sc (.bool (z3 t12)))] 44, .ex false [.c (.sc (.bool t13.1)), .c (.sc (.int .u64 (p2 t206))), .c (.sc (.int .i64 (p3 t206))), .c (.sc (.bool (z3 t13)))] 44], 0⟩) ∧ (True) ∧ (True) ∧ (True) ∧ (((t12.1 == t13.1) = true → (True) ∧ (True) ∧ (True) ∧ (True) ∧ (True) ∧ (∃ t227 : Int, (Fun cfg 43 [.agg [.c (.sc (.bool t12.1)), .c (.sc (.int .u64 (IntKind.wrap .u64 (t206.1 + (p2 t206))))), .c (.sc (.int .i64 t206.2.1)), .c (.sc (.bool (z4 t206)))]] [] (halterref02_Round.R t227) [] ∧ True) ∧ (True ∧ ((True) ∧ ((True) ∧ True) ∧ (.v (.one (.sc (.int .u64 t227))) : Tm) = halterref02_Add.R r ∧ ([] : List Box) = [])))) ∧ ((t12.1 == t13.1) = false → (True) ∧ (True) ∧ (True) ∧ (((decide (t206.1 < (p2 t206))) = true → (True) ∧ (True) ∧ (True) ∧ (True) ∧ (True) ∧ (∃ t229 : Int, (Fun cfg 43 [.agg [.c (.sc (.bool t13.1)), .c (.sc (.int .u64 (IntKind.wrap .u64 ((p2 t206) - t206.1)))), .c (.sc (.int .i64 t206.2.1)), .c (.sc (.bool false))]] [] (halterref02_Round.R t229) [] ∧ True) ∧ (True ∧ ((True) ∧ ((True) ∧ True) ∧ (.v (.one (.sc (.int .u64 t229))) : Tm) = halterref02_Add.R r ∧ ([] : List Box) = [])))) ∧ ((decide (t206.1 < (p2 t206))) = false → (True) ∧ (True) ∧ (True) ∧ (((z4 t206) = true → (True) ∧ (True) ∧ ((((IntKind.wrap .u64 ((IntKind.wrap .u64 (t206.1 - (p2 t206))) - (1 : Int))) == (0 : Int)) = true → (((IntKind.wrap .u64 ((IntKind.wrap .u64 (t206.1 - (p2 t206))) - (1 : Int))) == (0 : Int)) = true ∧ (((IntKind.wrap .u64 ((IntKind.wrap .u64 (t206.1 - (p2 t206))) - (1 : Int))) == (0 : Int)) = true ∧ ((!(z4 t206)) = false ∧ (True) ∧ (True) ∧ (∃ t232 : Int, (Fun cfg 43 [.agg [.c (.sc (.bool t12.1)), .c (.sc (.int .u64 (IntKind.wrap .u64 ((IntKind.wrap .u64 (t206.1 - (p2 t206))) - (1 : Int))))), .c (.sc (.int .i64 t206.2.1)), .c (.sc (.bool (z4 t206)))]] [] (halterref02_Round.R t232) [] ∧ True) ∧ (True ∧ ((True) ∧ ((True) ∧ True) ∧ (.v (.one (.sc (.int .u64 t232))) : Tm) = halterref02_Add.R r ∧ ([] : List Box) = []))))))) ∧ (((IntKind.wrap .u64 ((IntKind.wrap .u64 (t206.1 - (p2 t206))) - (1 : Int))) == (0 : Int)) = false → (((IntKind.wrap .u64 ((IntKind.wrap .u64 (t206.1 - (p2 t206))) - (1 : Int))) == (0 : Int)) = false ∧ (((IntKind.wrap .u64 ((IntKind.wrap .u64 (t206.1 - (p2 t206))) - (1 : Int))) == (0 : Int)) = false ∧ (false = false ∧ (True) ∧ (True) ∧ (∃ t233 : Int, (Fun cfg 43 [.agg [.c (.sc (.bool t12.1)), .c (.sc (.int .u64 (IntKind.wrap .u64 ((IntKind.wrap .u64 (t206.1 - (p2 t206))) - (1 : Int))))), .c (.sc (.int .i64 t206.2.1)), .c (.sc (.bool (z4 t206)))]] [] (halterref02_Round.R t233) [] ∧ True) ∧ (True ∧ ((True) ∧ ((True) ∧ True) ∧ (.v (.one (.sc (.int .u64 t233))) : Tm) = halterref02_Add.R r ∧ ([] : List Box) = []))))))))) ∧ ((z4 t206) = false → (True) ∧ ((((IntKind.wrap .u64 (t206.1 - (p2 t206))) == (0 : Int)) = true → (((IntKind.wrap .u64 (t206.1 - (p2 t206))) == (0 : Int)) = true ∧ (((IntKind.wrap .u64 (t206.1 - (p2 t206))) == (0 : Int)) = true ∧ ((!(z4 t206)) = true ∧ (True ∧ (True ∧ ((True) ∧ ((True) ∧ True) ∧ (.v (.one (.sc (.int .u64 (0 : Int)))) : Tm) = halterref02_Add.R r ∧ ([] : List Box) = []))))))) ∧ (((IntKind.wrap .u64 (t206.1 - (p2 t206))) == (0 : Int)) = false → (((IntKind.wrap .u64 (t206.1 - (p2 t206))) == (0 : Int)) = false ∧ (((IntKind.wrap .u64 (t206.1 - (p2 t206))) == (0 : Int)) = false ∧ (false = false ∧ (True) ∧ (True) ∧ (∃ t235 : Int, (Fun cfg 43 [.agg [.c (.sc (.bool t12.1)), .c (.sc (.int .u64 (IntKind.wrap .u64 (t206.1 - (p2 t206))))), .c (.sc (.int .i64 t206.2.1)), .c (.sc (.bool (z4 t206)))]] [] (halterref02_Round.R t235) [] ∧ True) ∧ (True ∧ ((True) ∧ ((True) ∧ True) ∧ (.v (.one (.sc (.int .u64 t235))) : Tm) = halterref02_Add.R r ∧ ([] : List Box) = []))))))))))))))))))))))))))))))) ∧ (((p2 t12) == (p2 t13)) = false → (((p2 t12) == (p2 t13)) = false ∧ (((p2 t12) == (p2 t13)) = false ∧ (((p2 t12) == (p2 t13)) = false ∧ (((p2 t12) == (p2 t13)) = false ∧ ((decide ((p2 t12) < (p2 t13))) = false ∧ (((p2 t12) == (p2 t13)) = false ∧ ((decide ((p2 t12) < (p2 t13))) = false ∧ (false = false ∧ (True ∧ (True ∧ (True) ∧ (True) ∧ (True) ∧ (True) ∧ (True) ∧ (True) ∧ (True ∧ (True) ∧ (True) ∧ (True) ∧ (True) ∧ (True) ∧ (True) ∧ (True ∧ (True ∧ (((True) ∧ True) ∧ (∃ t277 : TY0, Trip cfg (.loop (cpath (Try.f17.body.getD .skip) [1, 1, 1, 1, 1, 1, 1, 1, 1, 1, 1, 1, 0, 0, 0])) ⟨[.any, .any, .any, .any, .any, .v (.one (.ptr 0 ⟨0, 0, 0, 0⟩)), .v (.one (.ptr 1 ⟨0, 0, 0, 0⟩)), .v (.one (.sc (.bool false))), .any, .any, .any, .any, .any, .any, .any, .any, .any, .any, .any, .any, .any, .any, .any, .any, .any, .any, .any, .any, .any, .any, .any, .any, .any, .any, .any, .any, .any, .any, .any, .any, .any, .any, .any, .any, .any, .any, .any, .any, .any, .any, .any, .any, .any, .any, .any, .any, .any, .any, .any, .any, .any, .any, .any, .any, .any, .any, .any, .any, .any, .any, .any, .any, .any, .any, .any, .any, .any, .any, .any, .any, .any, .any, .any, .any, .any, .any, .any, .any, .any, .any, .any, .any, .any, .any, .any, .any, .any, .any, .any, .any, .any, .any, .any, .any, .any, .any, .any, .any, .any, .any, .any, .any, .any, .any, .any, .any, .any, .any, .any, .any, .any, .any, .any, .any, .any, .any, .any, .any, .any, .any, .any, .any, .any, .any, .any, .any, .any, .any, .any, .any, .any, .any, .any, .any, .any, .any, .any, .any, .any, .any, .any, .any, .any, .any, .any, .any, .any, .any, .any, .any, .any, .any, .any, .any, .any, .any, .any, .any, .any, .any, .any, .any, .any, .any, .any, .any, .any, .any, .any, .any, .any, .any, .any, .any, .any, .any, .any, .any, .any, .any, .any], [.ex false [.c (.sc (.bool t12.1)), .c (.sc (.int .u64 (IntKind.wrap .u64 ((256 : Int) * t12.2.1)))), .c (.sc (.int .i64 (IntKind.wrap .i64 ((p2 t12) - (8 : Int))))), .c (.sc (.bool (z3 t12)))] 44, .ex false [.c (.sc (.bool t13.1)), .c (.sc (.int .u64 (IntKind.wrap .u64 ((256 : Int) * t13.2.1)))), .c (.sc (.int .i64 (IntKind.wrap .i64 ((p2 t13) - (8 : Int))))), .c (.sc (.bool (z3 t13)))] 44], 0⟩ (fun e s => e = (.exit 0) ∧ s = ⟨[.any, .any, .any, .any, .any, .v (.one (.ptr 0 ⟨0, 0, 0, 0⟩)), .v (.one (.ptr 1 ⟨0, 0, 0, 0⟩)), .v (.one (.sc (.bool (z4 t277)))), .any, .any, .any, .any, .any, .any, .any, .any, .any, .any, .any, .any, .any, .any, .any, .any, .any, .any, .any, .any, .any, .any, .any, .any, .any, .any, .any, .any, .any, .any, .any, .any, .any, .any, .any, .any, .any, .any, .any, .any, .any, .any, .any, .any, .any, .any, .any, .any, .any, .any, .any, .any, .any, .any, .any, .any, .any, .any, .any, .any, .any, .any, .any, .any, .any, .any, .any, .any, .any, .any, .any, .any, .any, .any, .any, .any, .any, .any, .any, .any, .any, .any, .any, .any, .any, .any, .any, .any, .any, .any, .any, .any, .any, .any, .any, .any, .any, .any, .any, .any, .any, .any, .any, .any, .any, .any, .any, .any, .any, .any, .any, .any, .any, .any, .any, .any, .any, .any, .any, .any, .any, .any, .any, .any, .any, .any, .any, .any, .any, .any, .any, .any, .any, .any, .any, .any, .any, .any, .any, .any, .any, .any, .any, .any, .any, .any, .any, .any, .any, .any, .any, .any, .any, .any, .any, .any, .any, .any, .any, .any, .any, .any, .any, .any, .any, .any, .any, .any, .any, .any, .any, .any, .any, .any, .any, .any, .any, .any, .any, .any, .any, .any, .any], [.ex false [.c (.sc (.bool t12.1)), .c (.sc (.int .u64 t277.1)), .c (.sc (.int .i64 t277.2.1)), .c (.sc (.bool (z3 t12)))] 44, .ex false [.c (.sc (.bool t13.1)), .c (.sc (.int .u64 (p2 t277))), .c (.sc (.int .i64 (p3 t277))), .c (.sc (.bool (z3 t13)))] 44], 0⟩) ∧ (True) ∧ (True) ∧ (True) ∧ (((t12.1 == t13.1) = true → (True) ∧ (True) ∧ (True) ∧ (True) ∧ (True) ∧ (∃ t298 : Int, (Fun cfg 43 [.agg [.c (.sc (.bool t12.1)), .c (.sc (.int .u64 (IntKind.wrap .u64 (t277.1 + (p2 t277))))), .c (.sc (.int .i64 t277.2.1)), .c (.sc (.bool (z4 t277)))]] [] (halterref02_Round.R t298) [] ∧ True) ∧ (True ∧ ((True) ∧ ((True) ∧ True) ∧ (.v (.one (.sc (.int .u64 t298))) : Tm) = halterref02_Add.R r ∧ ([] : List Box) = [])))) ∧ ((t12.1 == t13.1) = false → (True) ∧ (True) ∧ (True) ∧ (((decide (t277.1 < (p2 t277))) = true → (True) ∧ (True) ∧ (True) ∧ (True) ∧ (True) ∧ (∃ t300 : Int, (Fun cfg 43 [.agg [.c (.sc (.bool t13.1)), .c (.sc (.int .u64 (IntKind.wrap .u64 ((p2 t277) - t277.1)))), .c (.sc (.int .i64 t277.2.1)), .c (.sc (.bool false))]] [] (halterref02_Round.R t300) [] ∧ True) ∧ (True ∧ ((True) ∧ ((True) ∧ True) ∧ (.v (.one (.sc (.int .u64 t300))) : Tm) = halterref02_Add.R r ∧ ([] : List Box) = [])))) ∧ ((decide (t277.1 < (p2 t277))) = false → (True) ∧ (True) ∧ (True) ∧ (((z4 t277) = true → (True) ∧ (True) ∧ ((((IntKind.wrap .u64 ((IntKind.wrap .u64 (t277.1 - (p2 t277))) - (1 : Int))) == (0 : Int)) = true → (((IntKind.wrap .u64 ((IntKind.wrap .u64 (t277.1 - (p2 t277))) - (1 : Int))) == (0 : Int)) = true ∧ (((IntKind.wrap .u64 ((IntKind.wrap .u64 (t277.1 - (p2 t277))) - (1 : Int))) == (0 : Int)) = true ∧ ((!(z4 t277)) = false ∧ (True) ∧ (True) ∧ (∃ t303 : Int, (Fun cfg 43 [.agg [.c (.sc (.bool t12.1)), .c (.sc (.int .u64 (IntKind.wrap .u64 ((IntKind.wrap .u64 (t277.1 - (p2 t277))) - (1 : Int))))), .c (.sc (.int .i64 t277.2.1)), .c (.sc (.bool (z4 t277)))]] [] (halterref02_Round.R t303) [] ∧ True) ∧ (True ∧ ((True) ∧ ((True) ∧ True) ∧ (.v (.one (.sc (.int .u64 t303))) : Tm) = halterref02_Add.R r ∧ ([] : List Box) = []))))))) ∧ (((IntKind.wrap .u64 ((IntKind.wrap .u64 (t277.1 - (p2 t277))) - (1 : Int))) == (0 : Int)) = false → (((IntKind.wrap .u64 ((IntKind.wrap .u64 (t277.1 - (p2 t277))) - (1 : Int))) == (0 : Int)) = false ∧ (((IntKind.wrap .u64 ((IntKind.wrap .u64 (t277.1 - (p2 t277))) - (1 : Int))) == (0 : Int)) = false ∧ (false = false ∧ (True) ∧ (True) ∧ (∃ t304 : Int, (Fun cfg 43 [.agg [.c (.sc (.bool t12.1)), .c (.sc (.int .u64 (IntKind.wrap .u64 ((IntKind.wrap .u64 (t277.1 - (p2 t277))) - (1 : Int))))), .c (.sc (.int .i64 t277.2.1)), .c (.sc (.bool (z4 t277)))]] [] (halterref02_Round.R t304) [] ∧ True) ∧ (True ∧ ((True) ∧ ((True) ∧ True) ∧ (.v (.one (.sc (.int .u64 t304))) : Tm) = halterref02_Add.R r ∧ ([] : List Box) = []))))))))) ∧ ((z4 t277) = false → (True) ∧ ((((IntKind.wrap .u64 (t277.1 - (p2 t277))) == (0 : Int)) = true → (((IntKind.wrap .u64 (t277.1 - (p2 t277))) == (0 : Int)) = true ∧ (((IntKind.wrap .u64 (t277.1 - (p2 t277))) == (0 : Int)) = true ∧ ((!(z4 t277)) = true ∧ (True ∧ (True ∧ ((True) ∧ ((True) ∧ True) ∧ (.v (.one (.sc (.int .u64 (0 : Int)))) : Tm) = halterref02_Add.R r ∧ ([] : List Box) = []))))))) ∧ (((IntKind.wrap .u64 (t277.1 - (p2 t277))) == (0 : Int)) = false → (((IntKind.wrap .u64 (t277.1 - (p2 t277))) == (0 : Int)) = false ∧ (((IntKind.wrap .u64 (t277.1 - (p2 t277))) == (0 : Int)) = false ∧ (false = false ∧ (True) ∧ (True) ∧ (∃ t306 : Int, (Fun cfg 43 [.agg [.c (.sc (.bool t12.1)), .c (.sc (.int .u64 (IntKind.wrap .u64 (t277.1 - (p2 t277))))), .c (.sc (.int .i64 t277.2.1)), .c (.sc (.bool (z4 t277)))]] [] (halterref02_Round.R t306) [] ∧ True) ∧ (True ∧ ((True) ∧ ((True) ∧ True) ∧ (.v (.one (.sc (.int .u64 t306))) : Tm) = halterref02_Add.R r ∧ ([] : List Box) = []))))))))))))))))))))))))))))))))))))) ∧ ((decide ((p2 t12) < (p2 t13))) = true → ((decide ((p2 t12) < (p2 t13))) = true ∧ ((decide ((p2 t12) < (p2 t13))) = true ∧ ((decide ((p2 t12) < (p2 t13))) = true ∧ ((decide ((p2 t12) < (p2 t13))) = true ∧ ((decide ((p2 t12) < (p2 t13))) = true ∧ ((decide ((p2 t12) < (p2 t13))) = true ∧ ((decide ((p2 t12) < (p2 t13))) = true ∧ (true = true ∧ (True ∧ (True) ∧ (True) ∧ (True) ∧ (True) ∧ (True ∧ (True) ∧ (True) ∧ (True) ∧ (True) ∧ (True) ∧ (True) ∧ (True ∧ (True) ∧ (True) ∧ (True) ∧ (True) ∧ (True) ∧ (True) ∧ (True ∧ (True ∧ (((True) ∧ True) ∧ (∃ t62 : TY0, Trip cfg (.loop (cpath (Try.f17.body.getD .skip) [1, 1, 1, 1, 1, 1, 1, 1, 1, 1, 1, 1, 0, 0, 0])) ⟨[.any, .any, .any, .any, .any, .v (.one (.ptr 0 ⟨0, 0, 0, 0⟩)), .v (.one (.ptr 1 ⟨0, 0, 0, 0⟩)), .v (.one (.sc (.bool false))), .any, .any, .any, .any, .any, .any, .any, .any, .any, .any, .any, .any, .any, .any, .any, .any, .any, .any, .any, .any, .any, .any, .any, .any, .any, .any, .any, .any, .any, .any, .any, .any, .any, .any, .any, .any, .any, .any, .any, .any, .any, .any, .any, .any, .any, .any, .any, .any, .any, .any, .any, .any, .any, .any, .any, .any, .any, .any, .any, .any, .any, .any, .any, .any, .any, .any, .any, .any, .any, .any, .any, .any, .any, .any, .any, .any, .any, .any, .any, .any, .any, .any, .any, .any, .any, .any, .any, .any, .any, .any, .any, .any, .any, .any, .any, .any, .any, .any, .any, .any, .any, .any, .any, .any, .any, .any, .any, .any, .any, .any, .any, .any, .any, .any, .any, .any, .any, .any, .any, .any, .any, .any, .any, .any, .any, .any, .any, .any, .any, .any, .any, .any, .any, .any, .any, .any, .any, .any, .any, .any, .any, .any, .any, .any, .any, .any, .any, .any, .any, .any, .any, .any, .any, .any, .any, .any, .any, .any, .any, .any, .any, .any, .any, .any, .any, .any, .any, .any, .any, .any, .any, .any, .any, .any, .any, .any, .any, .any, .any, .any, .any, .any, .any], [.ex false [.c (.sc (.bool t13.1)), .c (.sc (.int .u64 (IntKind.wrap .u64 ((256 : Int) * t13.2.1)))), .c (.sc (.int .i64 (IntKind.wrap .i64 ((p2 t13) - (8 : Int))))), .c (.sc (.bool (z3 t13)))] 44, .ex false [.c (.sc (.bool t12.1)), .c (.sc (.int .u64 (IntKind.wrap .u64 ((256 : Int) * t12.2.1)))), .c (.sc (.int .i64 (IntKind.wrap .i64 ((p2 t12) - (8 : Int))))), .c (.sc (.bool (z3 t12)))] 44], 0⟩ (fun e s => e = (.exit 0) ∧ s = ⟨[.any, .any, .any, .any, .any, .v (.one (.ptr 0 ⟨0, 0, 0, 0⟩)), .v (.one (.ptr 1 ⟨0, 0, 0, 0⟩)), .v (.one (.sc (.bool (z4 t62)))), .any, .any, .any, .any, .any, .any, .any, .any, .any, .any, .any, .any, .any, .any, .any, .any, .any, .any, .any, .any, .any, .any, .any, .any, .any, .any, .any, .any, .any, .any, .any, .any, .any, .any, .any, .any, .any, .any, .any, .any, .any, .any, .any, .any, .any, .any, .any, .any, .any, .any, .any, .any, .any, .any, .any, .any, .any, .any, .any, .any, .any, .any, .any, .any, .any, .any, .any, .any, .any, .any, .any, .any, .any, .any, .any, .any, .any, .any, .any, .any, .any, .any, .any, .any, .any, .any, .any, .any, .any, .any, .any, .any, .any, .any, .any, .any, .any, .any, .any, .any, .any, .any, .any, .any, .any, .any, .any, .any, .any, .any, .any, .any, .any, .any, .any, .any, .any, .any, .any, .any, .any, .any, .any, .any, .any, .any, .any, .any, .any, .any, .any, .any, .any, .any, .any, .any, .any, .any, .any, .any, .any, .any, .any, .any, .any, .any, .any, .any, .any, .any, .any, .any, .any, .any, .any, .any, .any, .any, .any, .any, .any, .any, .any, .any, .any, .any, .any, .any, .any, .any, .any, .any, .any, .any, .any, .any, .any, .any, .any, .any, .any, .any, .any], [.ex false [.c (.sc (.bool t13.1)), .c (.sc (.int .u64 t62.1)), .c (.sc (.int .i64 t62.2.1)), .c (.sc (.bool (z3 t13)))] 44, .ex false [.c (.sc (.bool t12.1)), .c (.sc (.int .u64 (p2 t62))), .c (.sc (.int .i64 (p3 t62))), .c (.sc (.bool (z3 t12)))] 44], 0⟩) ∧ (True) ∧ (True) ∧ (True) ∧ (((t13.1 == t12.1) = true → (True) ∧ (True) ∧ (True) ∧ (True) ∧ (True) ∧ (∃ t83 : Int, (Fun cfg 43 [.agg [.c (.sc (.bool t13.1)), .c (.sc (.int .u64 (IntKind.wrap .u64 (t62.1 + (p2 t62))))), .c (.sc (.int .i64 t62.2.1)), .c (.sc (.bool (z4 t62)))]] [] (halterref02_Round.R t83) [] ∧ True) ∧ (True ∧ ((True) ∧ ((True) ∧ True) ∧ (.v (.one (.sc (.int .u64 t83))) : Tm) = halterref02_Add.R r ∧ ([] : List Box) = [])))) ∧ ((t13.1 == t12.1) = false → (True) ∧ (True) ∧ (True) ∧ (((decide (t62.1 < (p2 t62))) = true → (True) ∧ (True) ∧ (True) ∧ (True) ∧ (True) ∧ (∃ t85 : Int, (Fun cfg 43 [.agg [.c (.sc (.bool t12.1)), .c (.sc (.int .u64 (IntKind.wrap .u64 ((p2 t62) - t62.1)))), .c (.sc (.int .i64 t62.2.1)), .c (.sc (.bool false))]] [] (halterref02_Round.R t85) [] ∧ True) ∧ (True ∧ ((True) ∧ ((True) ∧ True) ∧ (.v (.one (.sc (.int .u64 t85))) : Tm) = halterref02_Add.R r ∧ ([] : List Box) = [])))) ∧ ((decide (t62.1 < (p2 t62))) = false → (True) ∧ (True) ∧ (True) ∧ (((z4 t62) = true → (True) ∧ (True) ∧ ((((IntKind.wrap .u64 ((IntKind.wrap .u64 (t62.1 - (p2 t62))) - (1 : Int))) == (0 : Int)) = true → (((IntKind.wrap .u64 ((IntKind.wrap .u64 (t62.1 - (p2 t62))) - (1 : Int))) == (0 : Int)) = true ∧ (((IntKind.wrap .u64 ((IntKind.wrap .u64 (t62.1 - (p2 t62))) - (1 : Int))) == (0 : Int)) = true ∧ ((!(z4 t62)) = false ∧ (True) ∧ (True) ∧ (∃ t88 : Int, (Fun cfg 43 [.agg [.c (.sc (.bool t13.1)), .c (.sc (.int .u64 (IntKind.wrap .u64 ((IntKind.wrap .u64 (t62.1 - (p2 t62))) - (1 : Int))))), .c (.sc (.int .i64 t62.2.1)), .c (.sc (.bool (z4 t62)))]] [] (halterref02_Round.R t88) [] ∧ True) ∧ (True ∧ ((True) ∧ ((True) ∧ True) ∧ (.v (.one (.sc (.int .u64 t88))) : Tm) = halterref02_Add.R r ∧ ([] : List Box) = []))))))) ∧ (((IntKind.wrap .u64 ((IntKind.wrap .u64 (t62.1 - (p2 t62))) - (1 : Int))) == (0 : Int)) = false → (((IntKind.wrap .u64 ((IntKind.wrap .u64 (t62.1 - (p2 t62))) - (1 : Int))) == (0 : Int)) = false ∧ (((IntKind.wrap .u64 ((IntKind.wrap .u64 (t62.1 - (p2 t62))) - (1 : Int))) == (0 : Int)) = false ∧ (false = false ∧ (True) ∧ (True) ∧ (∃ t89 : Int, (Fun cfg 43 [.agg [.c (.sc (.bool t13.1)), .c (.sc (.int .u64 (IntKind.wrap .u64 ((IntKind.wrap .u64 (t62.1 - (p2 t62))) - (1 : Int))))), .c (.sc (.int .i64 t62.2.1)), .c (.sc (.bool (z4 t62)))]] [] (halterref02_Round.R t89) [] ∧ True) ∧ (True ∧ ((True) ∧ ((True) ∧ True) ∧ (.v (.one (.sc (.int .u64 t89))) : Tm) = halterref02_Add.R r ∧ ([] : List Box) = []))))))))) ∧ ((z4 t62) = false → (True) ∧ ((((IntKind.wrap .u64 (t62.1 - (p2 t62))) == (0 : Int)) = true → (((IntKind.wrap .u64 (t62.1 - (p2 t62))) == (0 : Int)) = true ∧ (((IntKind.wrap .u64 (t62.1 - (p2 t62))) == (0 : Int)) = true ∧ ((!(z4 t62)) = true ∧ (True ∧ (True ∧ ((True) ∧ ((True) ∧ True) ∧ (.v (.one (.sc (.int .u64 (0 : Int)))) : Tm) = halterref02_Add.R r ∧ ([] : List Box) = []))))))) ∧ (((IntKind.wrap .u64 (t62.1 - (p2 t62))) == (0 : Int)) = false → (((IntKind.wrap .u64 (t62.1 - (p2 t62))) == (0 : Int)) = false ∧ (((IntKind.wrap .u64 (t62.1 - (p2 t62))) == (0 : Int)) = false ∧ (false = false ∧ (True) ∧ (True) ∧ (∃ t91 : Int, (Fun cfg 43 [.agg [.c (.sc (.bool t13.1)), .c (.sc (.int .u64 (IntKind.wrap .u64 (t62.1 - (p2 t62))))), .c (.sc (.int .i64 t62.2.1)), .c (.sc (.bool (z4 t62)))]] [] (halterref02_Round.R t91) [] ∧ True) ∧ (True ∧ ((True) ∧ ((True) ∧ True) ∧ (.v (.one (.sc (.int .u64 t91))) : Tm) = halterref02_Add.R r ∧ ([] : List Box) = [])))))))))))))))))))))))))))))))))))))))))))))))))))) (by kernel_rfl) ?_)
  obtain ⟨t1, ht1, h⟩ := of_bind h
  refine ⟨t1, ⟨halterref02_none.fun_ ht1, trivial⟩, ?_⟩
  refine ⟨fun b2 => ?_, fun b2 => ?_⟩
  · rw [if_pos b2] at h
    refine ⟨trivial, ?_⟩
    refine ⟨trivial, ?_⟩
    obtain rfl := Option.some.inj h
    exact ⟨trivial, trivial, rfl, rfl⟩
  · rw [if_neg (ff b2)] at h
    obtain ⟨t3, ht3, h⟩ := of_bind h
    refine ⟨t3, ⟨halterref02_Class.fun_ ht3, trivial⟩, ?_⟩
    refine ⟨trivial, ?_⟩
    refine ⟨fun b4 => ?_, fun b4 => ?_⟩
    · rw [if_pos (beq_t b4)] at h
      obtain ⟨t5, ht5, h⟩ := of_bind h
      refine ⟨t5, ⟨halterref02_Class.fun_ ht5, trivial⟩, ?_⟩
      refine ⟨trivial, ?_⟩
      refine ⟨fun b6 => ?_, fun b6 => ?_⟩
      · rw [if_pos (beq_t b6)] at h
        refine ⟨b6, ?_⟩
        obtain ⟨t7, ht7, h⟩ := of_bind h
        refine ⟨t7, ⟨halterref02_Neg.fun_ ht7, trivial⟩, ?_⟩
        refine ⟨b6, ?_⟩
        refine ⟨b6, ?_⟩
        obtain ⟨t8, ht8, h⟩ := of_bind h
        refine ⟨t8, ⟨halterref02_Neg.fun_ ht8, trivial⟩, ?_⟩
        refine ⟨b6, ?_⟩
        refine ⟨trivial, ?_⟩
        refine ⟨b6, ?_⟩
        refine ⟨fun b9 => ?_, fun b9 => ?_⟩
        · rw [if_pos (bb_f (not_t b9))] at h
          refine ⟨trivial, ?_⟩
          refine ⟨trivial, ?_⟩
          obtain rfl := Option.some.inj h
          exact ⟨trivial, trivial, rfl, rfl⟩
        · rw [if_neg (not_not_intro (bb_t (not_f b9)))] at h
          refine ⟨trivial, ?_⟩
          refine ⟨trivial, ?_⟩
          refine ⟨trivial, ?_⟩
          obtain rfl := Option.some.inj h
          exact ⟨trivial, trivial, rfl, rfl⟩
      · rw [if_neg (beq_f b6)] at h
        refine ⟨b6, ?_⟩
        refine ⟨b6, ?_⟩
        refine ⟨b6, ?_⟩
        refine ⟨b6, ?_⟩
        refine ⟨b6, ?_⟩
        refine ⟨rfl, ?_⟩
        refine ⟨trivial, ?_⟩
        refine ⟨trivial, ?_⟩
        refine ⟨trivial, ?_⟩
        obtain rfl := Option.some.inj h
        exact ⟨trivial, trivial, rfl, rfl⟩
    · rw [if_neg (beq_f b4)] at h
      obtain ⟨t10, ht10, h⟩ := of_bind h
      refine ⟨t10, ⟨halterref02_Class.fun_ ht10, trivial⟩, ?_⟩
      refine ⟨trivial, ?_⟩
      refine ⟨fun b11 => ?_, fun b11 => ?_⟩
      · rw [if_pos (beq_t b11)] at h
        refine ⟨trivial, ?_⟩
        refine ⟨trivial, ?_⟩
        obtain rfl := Option.some.inj h
        exact ⟨trivial, trivial, rfl, rfl⟩
      · rw [if_neg (beq_f b11)] at h
        obtain ⟨t12, ht12, h⟩ := of_bind h
        refine ⟨t12, ⟨halterref02_Open.fun_ ht12, trivial⟩, ?_⟩
        obtain ⟨t13, ht13, h⟩ := of_bind h
        refine ⟨t13, ⟨halterref02_Open.fun_ ht13, trivial⟩, ?_⟩
        refine ⟨trivial, ?_⟩
        refine ⟨trivial, ?_⟩
        refine ⟨trivial, ?_⟩
        refine ⟨trivial, ?_⟩
        refine ⟨fun b14 => ?_, fun b14 => ?_⟩
        · rw [if_pos (beq_t b14)] at h
          refine ⟨b14, ?_⟩
          refine ⟨trivial, ?_⟩
          refine ⟨b14, ?_⟩
          refine ⟨trivial, ?_⟩
          refine ⟨b14, ?_⟩
          refine ⟨fun b15 => ?_, fun b15 => ?_⟩
          · rw [if_pos (beq_t b15)] at h
            refine ⟨trivial, ?_⟩
            refine ⟨fun b16 => ?_, fun b16 => ?_⟩
            · rw [if_pos b16] at h
              refine ⟨b16, ?_⟩
              refine ⟨trivial, ?_⟩
              refine ⟨b16, ?_⟩
              obtain ⟨t17, ht17, h⟩ := of_bind h
              refine ⟨t17, ⟨halterref02_signed.fun_ ht17, trivial⟩, ?_⟩
              refine ⟨trivial, ?_⟩
              obtain rfl := Option.some.inj h
              exact ⟨trivial, ⟨trivial, trivial⟩, rfl, rfl⟩
            · rw [if_neg (ff b16)] at h
              refine ⟨b16, ?_⟩
              refine ⟨b16, ?_⟩
              obtain ⟨t18, ht18, h⟩ := of_bind h
              refine ⟨t18, ⟨halterref02_signed.fun_ ht18, trivial⟩, ?_⟩
              refine ⟨trivial, ?_⟩
              obtain rfl := Option.some.inj h
              exact ⟨trivial, ⟨trivial, trivial⟩, rfl, rfl⟩
          · rw [if_neg (beq_f b15)] at h
            refine ⟨trivial, ?_⟩
            refine ⟨trivial, ?_⟩
            refine ⟨b14, ?_⟩
            refine ⟨trivial, ?_⟩
            refine ⟨trivial, ?_⟩
            obtain rfl := Option.some.inj h
            exact ⟨trivial, ⟨trivial, trivial⟩, rfl, rfl⟩
        · rw [if_neg (beq_f b14)] at h
          refine ⟨b14, ?_⟩
          refine ⟨b14, ?_⟩
          refine ⟨b14, ?_⟩
          refine ⟨rfl, ?_⟩
          refine ⟨trivial, ?_⟩
          refine ⟨trivial, ?_⟩
          refine ⟨b14, ?_⟩
          refine ⟨trivial, ?_⟩
          refine ⟨trivial, ?_⟩
          refine ⟨fun b19 => ?_, fun b19 => ?_⟩
          · rw [if_pos (beq_t b19)] at h
            refine ⟨trivial, ?_⟩
            refine ⟨trivial, ?_⟩
            obtain rfl := Option.some.inj h
            exact ⟨trivial, ⟨trivial, trivial⟩, rfl, rfl⟩
          · rw [if_neg (beq_f b19)] at h
            refine ⟨trivial, ?_⟩
            refine ⟨trivial, ?_⟩
            refine ⟨trivial, ?_⟩
            refine ⟨fun b20 => ?_, fun b20 => ?_⟩
            · rw [if_neg (of_decide_eq_false b20)] at h
              refine ⟨b20, ?_⟩
              refine ⟨trivial, ?_⟩
              refine ⟨b20, ?_⟩
              refine ⟨b20, ?_⟩
              refine ⟨trivial, ?_⟩
              refine ⟨b20, ?_⟩
              refine ⟨trivial, ?_⟩
              refine ⟨b20, ?_⟩
              refine ⟨fun b92 => ?_, fun b92 => ?_⟩
              · rw [if_pos (beq_t b92)] at h
                refine ⟨b92, ?_⟩
                refine ⟨trivial, ?_⟩
                refine ⟨b92, ?_⟩
                refine ⟨b92, ?_⟩
                refine ⟨trivial, ?_⟩
                refine ⟨b92, ?_⟩
                refine ⟨trivial, ?_⟩
                refine ⟨b20, ?_⟩
                refine ⟨b92, ?_⟩
                refine ⟨b20, ?_⟩
                refine ⟨fun b93 => ?_, fun b93 => ?_⟩
                · rw [if_pos (of_decide_eq_true b93)] at h
                  refine ⟨trivial, ?_⟩
                  refine ⟨trivial, ?_⟩
                  refine ⟨trivial, ?_⟩
                  refine ⟨trivial, ?_⟩
                  refine ⟨trivial, ?_⟩
                  refine ⟨trivial, ?_⟩
                  refine ⟨trivial, ?_⟩
                  refine ⟨trivial, ?_⟩
                  refine ⟨trivial, ?_⟩
                  refine ⟨trivial, ?_⟩
                  refine ⟨trivial, ?_⟩
                  refine ⟨trivial, ?_⟩
                  refine ⟨trivial, ?_⟩
                  refine ⟨trivial, ?_⟩
                  refine ⟨trivial, ?_⟩
                  refine ⟨trivial, ?_⟩
                  refine ⟨trivial, ?_⟩
                  refine ⟨trivial, ?_⟩
                  refine ⟨trivial, ?_⟩
                  refine ⟨trivial, ?_⟩
                  refine ⟨trivial, ?_⟩
                  obtain ⟨t135, ht135, h⟩ := of_bind h
                  refine ⟨⟨trivial, trivial⟩, t135, Trip.loop FUEL (halterref02_Add.l1_ok t12 t13 FUEL (IntKind.wrap .u64 ((256 : Int) * t13.2.1)) (IntKind.wrap .i64 (t13.2.2.1 - (8 : Int))) (IntKind.wrap .u64 ((256 : Int) * t12.2.1)) (IntKind.wrap .i64 (t12.2.2.1 - (8 : Int))) false t135 ht135), ?_⟩
                  refine ⟨trivial, ?_⟩
                  refine ⟨trivial, ?_⟩
                  refine ⟨trivial, ?_⟩
                  refine ⟨fun b155 => ?_, fun b155 => ?_⟩
                  · rw [if_pos (bb_t b155)] at h
                    refine ⟨trivial, ?_⟩
                    refine ⟨trivial, ?_⟩
                    refine ⟨trivial, ?_⟩
                    refine ⟨trivial, ?_⟩
                    refine ⟨trivial, ?_⟩
                    obtain ⟨t156, ht156, h⟩ := of_bind h
                    refine ⟨t156, ⟨halterref02_Round.fun_ ht156, trivial⟩, ?_⟩
                    refine ⟨trivial, ?_⟩
                    obtain rfl := Option.some.inj h
                    exact ⟨trivial, ⟨trivial, trivial⟩, rfl, rfl⟩
                  · rw [if_neg (bb_f b155)] at h
                    refine ⟨trivial, ?_⟩
                    refine ⟨trivial, ?_⟩
                    refine ⟨trivial, ?_⟩
                    refine ⟨fun b157 => ?_, fun b157 => ?_⟩
                    · rw [if_pos (of_decide_eq_true b157)] at h
                      refine ⟨trivial, ?_⟩
                      refine ⟨trivial, ?_⟩
                      refine ⟨trivial, ?_⟩
                      refine ⟨trivial, ?_⟩
                      refine ⟨trivial, ?_⟩
                      obtain ⟨t158, ht158, h⟩ := of_bind h
                      refine ⟨t158, ⟨halterref02_Round.fun_ ht158, trivial⟩, ?_⟩
                      refine ⟨trivial, ?_⟩
                      obtain rfl := Option.some.inj h
                      exact ⟨trivial, ⟨trivial, trivial⟩, rfl, rfl⟩
                    · rw [if_neg (of_decide_eq_false b157)] at h
                      refine ⟨trivial, ?_⟩
                      refine ⟨trivial, ?_⟩
                      refine ⟨trivial, ?_⟩
                      refine ⟨fun b159 => ?_, fun b159 => ?_⟩
                      · rw [if_pos b159] at h
                        refine ⟨trivial, ?_⟩
                        refine ⟨trivial, ?_⟩
                        refine ⟨fun b160 => ?_, fun b160 => ?_⟩
                        · rw [if_pos (beq_t b160)] at h
                          refine ⟨b160, ?_⟩
                          refine ⟨b160, ?_⟩
                          refine ⟨(not_of b159), ?_⟩
                          refine ⟨trivial, ?_⟩
                          refine ⟨trivial, ?_⟩
                          obtain ⟨t161, ht161, h⟩ := of_bind h
                          refine ⟨t161, ⟨halterref02_Round.fun_ ht161, trivial⟩, ?_⟩
                          refine ⟨trivial, ?_⟩
                          obtain rfl := Option.some.inj h
                          exact ⟨trivial, ⟨trivial, trivial⟩, rfl, rfl⟩
                        · rw [if_neg (beq_f b160)] at h
                          refine ⟨b160, ?_⟩
                          refine ⟨b160, ?_⟩
                          refine ⟨rfl, ?_⟩
                          refine ⟨trivial, ?_⟩
                          refine ⟨trivial, ?_⟩
                          obtain ⟨t162, ht162, h⟩ := of_bind h
                          refine ⟨t162, ⟨halterref02_Round.fun_ ht162, trivial⟩, ?_⟩
                          refine ⟨trivial, ?_⟩
                          obtain rfl := Option.some.inj h
                          exact ⟨trivial, ⟨trivial, trivial⟩, rfl, rfl⟩
                      · rw [if_neg (ff b159)] at h
                        refine ⟨trivial, ?_⟩
                        refine ⟨fun b163 => ?_, fun b163 => ?_⟩
                        · rw [if_pos (beq_t b163)] at h
                          refine ⟨b163, ?_⟩
                          refine ⟨b163, ?_⟩
                          refine ⟨(not_of b159), ?_⟩
                          refine ⟨trivial, ?_⟩
                          refine ⟨trivial, ?_⟩
                          obtain rfl := Option.some.inj h
                          exact ⟨trivial, ⟨trivial, trivial⟩, rfl, rfl⟩
                        · rw [if_neg (beq_f b163)] at h
                          refine ⟨b163, ?_⟩
                          refine ⟨b163, ?_⟩
                          refine ⟨rfl, ?_⟩
                          refine ⟨trivial, ?_⟩
                          refine ⟨trivial, ?_⟩
                          obtain ⟨t164, ht164, h⟩ := of_bind h
                          refine ⟨t164, ⟨halterref02_Round.fun_ ht164, trivial⟩, ?_⟩
                          refine ⟨trivial, ?_⟩
                          obtain rfl := Option.some.inj h
                          exact ⟨trivial, ⟨trivial, trivial⟩, rfl, rfl⟩
                · rw [if_neg (of_decide_eq_false b93)] at h
                  refine ⟨trivial, ?_⟩
                  refine ⟨trivial, ?_⟩
                  refine ⟨trivial, ?_⟩
                  refine ⟨trivial, ?_⟩
                  refine ⟨trivial, ?_⟩
                  refine ⟨trivial, ?_⟩
                  refine ⟨trivial, ?_⟩
                  refine ⟨trivial, ?_⟩
                  refine ⟨trivial, ?_⟩
                  refine ⟨trivial, ?_⟩
                  refine ⟨trivial, ?_⟩
                  refine ⟨trivial, ?_⟩
                  refine ⟨trivial, ?_⟩
                  refine ⟨trivial, ?_⟩
                  refine ⟨trivial, ?_⟩
                  refine ⟨trivial, ?_⟩
                  refine ⟨trivial, ?_⟩
                  obtain ⟨t206, ht206, h⟩ := of_bind h
                  refine ⟨⟨trivial, trivial⟩, t206, Trip.loop FUEL (halterref02_Add.l2_ok t12 t13 FUEL (IntKind.wrap .u64 ((256 : Int) * t12.2.1)) (IntKind.wrap .i64 (t12.2.2.1 - (8 : Int))) (IntKind.wrap .u64 ((256 : Int) * t13.2.1)) (IntKind.wrap .i64 (t13.2.2.1 - (8 : Int))) false t206 ht206), ?_⟩
                  refine ⟨trivial, ?_⟩
                  refine ⟨trivial, ?_⟩
                  refine ⟨trivial, ?_⟩
                  refine ⟨fun b226 => ?_, fun b226 => ?_⟩
                  · rw [if_pos (bb_t b226)] at h
                    refine ⟨trivial, ?_⟩
                    refine ⟨trivial, ?_⟩
                    refine ⟨trivial, ?_⟩
                    refine ⟨trivial, ?_⟩
                    refine ⟨trivial, ?_⟩
                    obtain ⟨t227, ht227, h⟩ := of_bind h
                    refine ⟨t227, ⟨halterref02_Round.fun_ ht227, trivial⟩, ?_⟩
                    refine ⟨trivial, ?_⟩
                    obtain rfl := Option.some.inj h
                    exact ⟨trivial, ⟨trivial, trivial⟩, rfl, rfl⟩
                  · rw [if_neg (bb_f b226)] at h
                    refine ⟨trivial, ?_⟩
                    refine ⟨trivial, ?_⟩
                    refine ⟨trivial, ?_⟩
                    refine ⟨fun b228 => ?_, fun b228 => ?_⟩
                    · rw [if_pos (of_decide_eq_true b228)] at h
                      refine ⟨trivial, ?_⟩
                      refine ⟨trivial, ?_⟩
                      refine ⟨trivial, ?_⟩
                      refine ⟨trivial, ?_⟩
                      refine ⟨trivial, ?_⟩
                      obtain ⟨t229, ht229, h⟩ := of_bind h
                      refine ⟨t229, ⟨halterref02_Round.fun_ ht229, trivial⟩, ?_⟩
                      refine ⟨trivial, ?_⟩
                      obtain rfl := Option.some.inj h
                      exact ⟨trivial, ⟨trivial, trivial⟩, rfl, rfl⟩
                    · rw [if_neg (of_decide_eq_false b228)] at h
                      refine ⟨trivial, ?_⟩
                      refine ⟨trivial, ?_⟩
                      refine ⟨trivial, ?_⟩
                      refine ⟨fun b230 => ?_, fun b230 => ?_⟩
                      · rw [if_pos b230] at h
                        refine ⟨trivial, ?_⟩
                        refine ⟨trivial, ?_⟩
                        refine ⟨fun b231 => ?_, fun b231 => ?_⟩
                        · rw [if_pos (beq_t b231)] at h
                          refine ⟨b231, ?_⟩
                          refine ⟨b231, ?_⟩
                          refine ⟨(not_of b230), ?_⟩
                          refine ⟨trivial, ?_⟩
                          refine ⟨trivial, ?_⟩
                          obtain ⟨t232, ht232, h⟩ := of_bind h
                          refine ⟨t232, ⟨halterref02_Round.fun_ ht232, trivial⟩, ?_⟩
                          refine ⟨trivial, ?_⟩
                          obtain rfl := Option.some.inj h
                          exact ⟨trivial, ⟨trivial, trivial⟩, rfl, rfl⟩
                        · rw [if_neg (beq_f b231)] at h
                          refine ⟨b231, ?_⟩
                          refine ⟨b231, ?_⟩
                          refine ⟨rfl, ?_⟩
                          refine ⟨trivial, ?_⟩
                          refine ⟨trivial, ?_⟩
                          obtain ⟨t233, ht233, h⟩ := of_bind h
                          refine ⟨t233, ⟨halterref02_Round.fun_ ht233, trivial⟩, ?_⟩
                          refine ⟨trivial, ?_⟩
                          obtain rfl := Option.some.inj h
                          exact ⟨trivial, ⟨trivial, trivial⟩, rfl, rfl⟩
                      · rw [if_neg (ff b230)] at h
                        refine ⟨trivial, ?_⟩
                        refine ⟨fun b234 => ?_, fun b234 => ?_⟩
                        · rw [if_pos (beq_t b234)] at h
                          refine ⟨b234, ?_⟩
                          refine ⟨b234, ?_⟩
                          refine ⟨(not_of b230), ?_⟩
                          refine ⟨trivial, ?_⟩
                          refine ⟨trivial, ?_⟩
                          obtain rfl := Option.some.inj h
                          exact ⟨trivial, ⟨trivial, trivial⟩, rfl, rfl⟩
                        · rw [if_neg (beq_f b234)] at h
                          refine ⟨b234, ?_⟩
                          refine ⟨b234, ?_⟩
                          refine ⟨rfl, ?_⟩
                          refine ⟨trivial, ?_⟩
                          refine ⟨trivial, ?_⟩
                          obtain ⟨t235, ht235, h⟩ := of_bind h
                          refine ⟨t235, ⟨halterref02_Round.fun_ ht235, trivial⟩, ?_⟩
                          refine ⟨trivial, ?_⟩
                          obtain rfl := Option.some.inj h
                          exact ⟨trivial, ⟨trivial, trivial⟩, rfl, rfl⟩
              · rw [if_neg (beq_f b92)] at h
                refine ⟨b92, ?_⟩
                refine ⟨b92, ?_⟩
                refine ⟨b92, ?_⟩
                refine ⟨b92, ?_⟩
                refine ⟨b20, ?_⟩
                refine ⟨b92, ?_⟩
                refine ⟨b20, ?_⟩
                refine ⟨rfl, ?_⟩
                refine ⟨trivial, ?_⟩
                refine ⟨trivial, ?_⟩
                refine ⟨trivial, ?_⟩
                refine ⟨trivial, ?_⟩
                refine ⟨trivial, ?_⟩
                refine ⟨trivial, ?_⟩
                refine ⟨trivial, ?_⟩
                refine ⟨trivial, ?_⟩
                refine ⟨trivial, ?_⟩
                refine ⟨trivial, ?_⟩
                refine ⟨trivial, ?_⟩
                refine ⟨trivial, ?_⟩
                refine ⟨trivial, ?_⟩
                refine ⟨trivial, ?_⟩
                refine ⟨trivial, ?_⟩
                refine ⟨trivial, ?_⟩
                refine ⟨trivial, ?_⟩
                obtain ⟨t277, ht277, h⟩ := of_bind h
                refine ⟨⟨trivial, trivial⟩, t277, Trip.loop FUEL (halterref02_Add.l3_ok t12 t13 FUEL (IntKind.wrap .u64 ((256 : Int) * t12.2.1)) (IntKind.wrap .i64 (t12.2.2.1 - (8 : Int))) (IntKind.wrap .u64 ((256 : Int) * t13.2.1)) (IntKind.wrap .i64 (t13.2.2.1 - (8 : Int))) false t277 ht277), ?_⟩
                refine ⟨trivial, ?_⟩
                refine ⟨trivial, ?_⟩
                refine ⟨trivial, ?_⟩
                refine ⟨fun b297 => ?_, fun b297 => ?_⟩
                · rw [if_pos (bb_t b297)] at h
                  refine ⟨trivial, ?_⟩
                  refine ⟨trivial, ?_⟩
                  refine ⟨trivial, ?_⟩
                  refine ⟨trivial, ?_⟩
                  refine ⟨trivial, ?_⟩
                  obtain ⟨t298, ht298, h⟩ := of_bind h
                  refine ⟨t298, ⟨halterref02_Round.fun_ ht298, trivial⟩, ?_⟩
                  refine ⟨trivial, ?_⟩
                  obtain rfl := Option.some.inj h
                  exact ⟨trivial, ⟨trivial, trivial⟩, rfl, rfl⟩
                · rw [if_neg (bb_f b297)] at h
                  refine ⟨trivial, ?_⟩
                  refine ⟨trivial, ?_⟩
                  refine ⟨trivial, ?_⟩
                  refine ⟨fun b299 => ?_, fun b299 => ?_⟩
                  · rw [if_pos (of_decide_eq_true b299)] at h
                    refine ⟨trivial, ?_⟩
                    refine ⟨trivial, ?_⟩
                    refine ⟨trivial, ?_⟩
                    refine ⟨trivial, ?_⟩
                    refine ⟨trivial, ?_⟩
                    obtain ⟨t300, ht300, h⟩ := of_bind h
                    refine ⟨t300, ⟨halterref02_Round.fun_ ht300, trivial⟩, ?_⟩
                    refine ⟨trivial, ?_⟩
                    obtain rfl := Option.some.inj h
                    exact ⟨trivial, ⟨trivial, trivial⟩, rfl, rfl⟩
                  · rw [if_neg (of_decide_eq_false b299)] at h
                    refine ⟨trivial, ?_⟩
                    refine ⟨trivial, ?_⟩
                    refine ⟨trivial, ?_⟩
                    refine ⟨fun b301 => ?_, fun b301 => ?_⟩
                    · rw [if_pos b301] at h
                      refine ⟨trivial, ?_⟩
                      refine ⟨trivial, ?_⟩
                      refine ⟨fun b302 => ?_, fun b302 => ?_⟩
                      · rw [if_pos (beq_t b302)] at h
                        refine ⟨b302, ?_⟩
                        refine ⟨b302, ?_⟩
                        refine ⟨(not_of b301), ?_⟩
                        refine ⟨trivial, ?_⟩
                        refine ⟨trivial, ?_⟩
                        obtain ⟨t303, ht303, h⟩ := of_bind h
                        refine ⟨t303, ⟨halterref02_Round.fun_ ht303, trivial⟩, ?_⟩
                        refine ⟨trivial, ?_⟩
                        obtain rfl := Option.some.inj h
                        exact ⟨trivial, ⟨trivial, trivial⟩, rfl, rfl⟩
                      · rw [if_neg (beq_f b302)] at h
                        refine ⟨b302, ?_⟩
                        refine ⟨b302, ?_⟩
                        refine ⟨rfl, ?_⟩
                        refine ⟨trivial, ?_⟩
                        refine ⟨trivial, ?_⟩
                        obtain ⟨t304, ht304, h⟩ := of_bind h
                        refine ⟨t304, ⟨halterref02_Round.fun_ ht304, trivial⟩, ?_⟩
                        refine ⟨trivial, ?_⟩
                        obtain rfl := Option.some.inj h
                        exact ⟨trivial, ⟨trivial, trivial⟩, rfl, rfl⟩
                    · rw [if_neg (ff b301)] at h
                      refine ⟨trivial, ?_⟩
                      refine ⟨fun b305 => ?_, fun b305 => ?_⟩
                      · rw [if_pos (beq_t b305)] at h
                        refine ⟨b305, ?_⟩
                        refine ⟨b305, ?_⟩
                        refine ⟨(not_of b301), ?_⟩
                        refine ⟨trivial, ?_⟩
                        refine ⟨trivial, ?_⟩
                        obtain rfl := Option.some.inj h
                        exact ⟨trivial, ⟨trivial, trivial⟩, rfl, rfl⟩
                      · rw [if_neg (beq_f b305)] at h
                        refine ⟨b305, ?_⟩
                        refine ⟨b305, ?_⟩
                        refine ⟨rfl, ?_⟩
                        refine ⟨trivial, ?_⟩
                        refine ⟨trivial, ?_⟩
                        obtain ⟨t306, ht306, h⟩ := of_bind h
                        refine ⟨t306, ⟨halterref02_Round.fun_ ht306, trivial⟩, ?_⟩
                        refine ⟨trivial, ?_⟩
                        obtain rfl := Option.some.inj h
                        exact ⟨trivial, ⟨trivial, trivial⟩, rfl, rfl⟩
            · rw [if_pos (of_decide_eq_true b20)] at h
              refine ⟨b20, ?_⟩
              refine ⟨b20, ?_⟩
              refine ⟨b20, ?_⟩
              refine ⟨b20, ?_⟩
              refine ⟨b20, ?_⟩
              refine ⟨b20, ?_⟩
              refine ⟨b20, ?_⟩
              refine ⟨rfl, ?_⟩
              refine ⟨trivial, ?_⟩
              refine ⟨trivial, ?_⟩
              refine ⟨trivial, ?_⟩
              refine ⟨trivial, ?_⟩
              refine ⟨trivial, ?_⟩
              refine ⟨trivial, ?_⟩
              refine ⟨trivial, ?_⟩
              refine ⟨trivial, ?_⟩
              refine ⟨trivial, ?_⟩
              refine ⟨trivial, ?_⟩
              refine ⟨trivial, ?_⟩
              refine ⟨trivial, ?_⟩
              refine ⟨trivial, ?_⟩
              refine ⟨trivial, ?_⟩
              refine ⟨trivial, ?_⟩
              refine ⟨trivial, ?_⟩
              refine ⟨trivial, ?_⟩
              refine ⟨trivial, ?_⟩
              refine ⟨trivial, ?_⟩
              refine ⟨trivial, ?_⟩
              refine ⟨trivial, ?_⟩
              obtain ⟨t62, ht62, h⟩ := of_bind h
              refine ⟨⟨trivial, trivial⟩, t62, Trip.loop FUEL (halterref02_Add.l0_ok t12 t13 FUEL (IntKind.wrap .u64 ((256 : Int) * t13.2.1)) (IntKind.wrap .i64 (t13.2.2.1 - (8 : Int))) (IntKind.wrap .u64 ((256 : Int) * t12.2.1)) (IntKind.wrap .i64 (t12.2.2.1 - (8 : Int))) false t62 ht62), ?_⟩
              refine ⟨trivial, ?_⟩
              refine ⟨trivial, ?_⟩
              refine ⟨trivial, ?_⟩
              refine ⟨fun b82 => ?_, fun b82 => ?_⟩
              · rw [if_pos (bb_t b82)] at h
                refine ⟨trivial, ?_⟩
                refine ⟨trivial, ?_⟩
                refine ⟨trivial, ?_⟩
                refine ⟨trivial, ?_⟩
                refine ⟨trivial, ?_⟩
                obtain ⟨t83, ht83, h⟩ := of_bind h
                refine ⟨t83, ⟨halterref02_Round.fun_ ht83, trivial⟩, ?_⟩
                refine ⟨trivial, ?_⟩
                obtain rfl := Option.some.inj h
                exact ⟨trivial, ⟨trivial, trivial⟩, rfl, rfl⟩
              · rw [if_neg (bb_f b82)] at h
                refine ⟨trivial, ?_⟩
                refine ⟨trivial, ?_⟩
                refine ⟨trivial, ?_⟩
                refine ⟨fun b84 => ?_, fun b84 => ?_⟩
                · rw [if_pos (of_decide_eq_true b84)] at h
                  refine ⟨trivial, ?_⟩
                  refine ⟨trivial, ?_⟩
                  refine ⟨trivial, ?_⟩
                  refine ⟨trivial, ?_⟩
                  refine ⟨trivial, ?_⟩
                  obtain ⟨t85, ht85, h⟩ := of_bind h
                  refine ⟨t85, ⟨halterref02_Round.fun_ ht85, trivial⟩, ?_⟩
                  refine ⟨trivial, ?_⟩
                  obtain rfl := Option.some.inj h
                  exact ⟨trivial, ⟨trivial, trivial⟩, rfl, rfl⟩
                · rw [if_neg (of_decide_eq_false b84)] at h
                  refine ⟨trivial, ?_⟩
                  refine ⟨trivial, ?_⟩
                  refine ⟨trivial, ?_⟩
                  refine ⟨fun b86 => ?_, fun b86 => ?_⟩
                  · rw [if_pos b86] at h
                    refine ⟨trivial, ?_⟩
                    refine ⟨trivial, ?_⟩
                    refine ⟨fun b87 => ?_, fun b87 => ?_⟩
                    · rw [if_pos (beq_t b87)] at h
                      refine ⟨b87, ?_⟩
                      refine ⟨b87, ?_⟩
                      refine ⟨(not_of b86), ?_⟩
                      refine ⟨trivial, ?_⟩
                      refine ⟨trivial, ?_⟩
                      obtain ⟨t88, ht88, h⟩ := of_bind h
                      refine ⟨t88, ⟨halterref02_Round.fun_ ht88, trivial⟩, ?_⟩
                      refine ⟨trivial, ?_⟩
                      obtain rfl := Option.some.inj h
                      exact ⟨trivial, ⟨trivial, trivial⟩, rfl, rfl⟩
                    · rw [if_neg (beq_f b87)] at h
                      refine ⟨b87, ?_⟩
                      refine ⟨b87, ?_⟩
                      refine ⟨rfl, ?_⟩
                      refine ⟨trivial, ?_⟩
                      refine ⟨trivial, ?_⟩
                      obtain ⟨t89, ht89, h⟩ := of_bind h
                      refine ⟨t89, ⟨halterref02_Round.fun_ ht89, trivial⟩, ?_⟩
                      refine ⟨trivial, ?_⟩
                      obtain rfl := Option.some.inj h
                      exact ⟨trivial, ⟨trivial, trivial⟩, rfl, rfl⟩
                  · rw [if_neg (ff b86)] at h
                    refine ⟨trivial, ?_⟩
                    refine ⟨fun b90 => ?_, fun b90 => ?_⟩
                    · rw [if_pos (beq_t b90)] at h
                      refine ⟨b90, ?_⟩
                      refine ⟨b90, ?_⟩
                      refine ⟨(not_of b86), ?_⟩
                      refine ⟨trivial, ?_⟩
                      refine ⟨trivial, ?_⟩
                      obtain rfl := Option.some.inj h
                      exact ⟨trivial, ⟨trivial, trivial⟩, rfl, rfl⟩
                    · rw [if_neg (beq_f b90)] at h
                      refine ⟨b90, ?_⟩
                      refine ⟨b90, ?_⟩
                      refine ⟨rfl, ?_⟩
                      refine ⟨trivial, ?_⟩
                      refine ⟨trivial, ?_⟩
                      obtain ⟨t91, ht91, h⟩ := of_bind h
                      refine ⟨t91, ⟨halterref02_Round.fun_ ht91, trivial⟩, ?_⟩
                      refine ⟨trivial, ?_⟩
                      obtain rfl := Option.some.inj h
                      exact ⟨trivial, ⟨trivial, trivial⟩, rfl, rfl⟩
/-! halter/halterref02.Minus -/
def halterref02_Minus.f (a0 : Int) : Option Int :=
  (halterref02_Neg.f a0).bind fun t1 =>
  if t1 = true then
    some (IntKind.wrap .u64 (a0 - (9223372036854775808 : Int)))
  else
    some (IntKind.wrap .u64 (a0 + (9223372036854775808 : Int)))
def halterref02_Minus.R (r : Int) : Tm := .v (.one (.sc (.int .u64 r)))
theorem halterref02_Minus.fun_ {a0 : Int} {r : Int} (h : halterref02_Minus.f a0 = some r) : Fun cfg 45 [.one (.sc (.int .u64 a0))] [] (halterref02_Minus.R r) [] := by
  unfold halterref02_Minus.f at h
  refine fun_of_run cfg_ok (f := 45) (fn := Try.f45) Try.func45 rfl (by kernel_rfl) (rs := [.tmp 2]) rfl (nt := 9) rfl (l := fin) (k := (.call true [] (Bool) (fun t1 => halterref02_Neg.R t1) (fun t1 => (.br (.adj [] (.adj [] (.adj [] .nil))) (.adj [] (.adj [] (.adj [] (.adj [] .nil)))))))) (to_goal (q := (∃ t1 : Bool, (Fun cfg 38 [.one (.sc (.int .u64 a0))] [] (halterref02_Neg.R t1) [] ∧ True) ∧ ((t1 = true → (True ∧ (True) ∧ (True ∧ ((True) ∧ (True) ∧ (.v (.one (.sc (.int .u64 (IntKind.wrap .u64 (a0 - (9223372036854775808 : Int)))))) : Tm) = halterref02_Minus.R r ∧ ([] : List Box) = [])))) ∧ (t1 = false → (True ∧ (True ∧ (True) ∧ (True ∧ ((True) ∧ (True) ∧ (.v (.one (.sc (.int .u64 (IntKind.wrap .u64 (a0 + (9223372036854775808 : Int)))))) : Tm) = halterref02_Minus.R r ∧ ([] : List Box) = [])))))))) (by kernel_rfl) ?_)
  obtain ⟨t1, ht1, h⟩ := of_bind h
  refine ⟨t1, ⟨halterref02_Neg.fun_ ht1, trivial⟩, ?_⟩
  refine ⟨fun b2 => ?_, fun b2 => ?_⟩
  · rw [if_pos b2] at h
    refine ⟨trivial, ?_⟩
    refine ⟨trivial, ?_⟩
    refine ⟨trivial, ?_⟩
    obtain rfl := Option.some.inj h
    exact ⟨trivial, trivial, rfl, rfl⟩
  · rw [if_neg (ff b2)] at h
    refine ⟨trivial, ?_⟩
    refine ⟨trivial, ?_⟩
    refine ⟨trivial, ?_⟩
    refine ⟨trivial, ?_⟩
    obtain rfl := Option.some.inj h
    exact ⟨trivial, trivial, rfl, rfl⟩
/-! halter/halterlaw02.minus -/
def halterlaw02_minus.f (a0 : Int) : Option Int :=
  (halterref02_Class.f a0).bind fun t1 =>
  if t1 = (4 : Int) then
    some a0
  else
    (halterref02_Minus.f a0).bind fun t3 =>
    some t3
def halterlaw02_minus.R (r : Int) : Tm := .v (.one (.sc (.int .u64 r)))
theorem halterlaw02_minus.fun_ {a0 : Int} {r : Int} (h : halterlaw02_minus.f a0 = some r) : Fun cfg 19 [.one (.sc (.int .u64 a0))] [] (halterlaw02_minus.R r) [] := by
  unfold halterlaw02_minus.f at h
  refine fun_of_run cfg_ok (f := 19) (fn := Try.f19) Try.func19 rfl (by kernel_rfl) (rs := [.tmp 2]) rfl (nt := 9) rfl (l := fin) (k := (.call true [] (Int) (fun t1 => halterref02_Class.R t1) (fun t1 => (.br (.adj [] (.adj [] (.adj [] .nil))) (.call true [] (Int) (fun t3 => halterref02_Minus.R t3) (fun t3 => (.adj [] (.adj [] .nil)))))))) (to_goal (q := (∃ t1 : Int, (Fun cfg 21 [.one (.sc (.int .u64 a0))] [] (halterref02_Class.R t1) [] ∧ True) ∧ (True) ∧ (((t1 == (4 : Int)) = true → (True ∧ (True ∧ ((True) ∧ (True) ∧ (.v (.one (.sc (.int .u64 a0))) : Tm) = halterlaw02_minus.R r ∧ ([] : List Box) = [])))) ∧ ((t1 == (4 : Int)) = false → (∃ t3 : Int, (Fun cfg 45 [.one (.sc (.int .u64 a0))] [] (halterref02_Minus.R t3) [] ∧ True) ∧ (True ∧ ((True) ∧ (True) ∧ (.v (.one (.sc (.int .u64 t3))) : Tm) = halterlaw02_minus.R r ∧ ([] : List Box) = []))))))) (by kernel_rfl) ?_)
  obtain ⟨t1, ht1, h⟩ := of_bind h
  refine ⟨t1, ⟨halterref02_Class.fun_ ht1, trivial⟩, ?_⟩
  refine ⟨trivial, ?_⟩
  refine ⟨fun b2 => ?_, fun b2 => ?_⟩
  · rw [if_pos (beq_t b2)] at h
    refine ⟨trivial, ?_⟩
    refine ⟨trivial, ?_⟩
    obtain rfl := Option.some.inj h
    exact ⟨trivial, trivial, rfl, rfl⟩
  · rw [if_neg (beq_f b2)] at h
    obtain ⟨t3, ht3, h⟩ := of_bind h
    refine ⟨t3, ⟨halterref02_Minus.fun_ ht3, trivial⟩, ?_⟩
    refine ⟨trivial, ?_⟩
    obtain rfl := Option.some.inj h
    exact ⟨trivial, trivial, rfl, rfl⟩
/-! halter/soft.Class -/
def soft_Class.f (a0 : Int) : Option Int :=
  if (bits .and .u64 (shr .u64 a0 (52 : Int)) (2047 : Int)) = (0 : Int) then
    if (bits .and .u64 a0 (4503599627370495 : Int)) = (0 : Int) then
      some (0 : Int)
    else
      some (1 : Int)
  else
    if (bits .and .u64 (shr .u64 a0 (52 : Int)) (2047 : Int)) < (2047 : Int) then
      some (2 : Int)
    else
      if (bits .and .u64 a0 (4503599627370495 : Int)) = (0 : Int) then
        some (3 : Int)
      else
        some (4 : Int)
def soft_Class.R (r : Int) : Tm := .v (.one (.sc (.int .i64 r)))
theorem soft_Class.fun_ {a0 : Int} {r : Int} (h : soft_Class.f a0 = some r) : Fun cfg 20 [.one (.sc (.int .u64 a0))] [] (soft_Class.R r) [] := by
  unfold soft_Class.f at h
  refine fun_of_run cfg_ok (f := 20) (fn := Try.f20) Try.func20 rfl (by kernel_rfl) (rs := [.tmp 2]) rfl (nt := 26) rfl (l := fin) (k := (.br (.one true (.one true (.br (.adj [] (.adj [] (.adj [] .nil))) (.one true (.adj [] (.adj [] (.adj [] .nil))))))) (.one false (.one false (.one false (.one false (.br (.adj [] (.adj [] (.adj [] .nil))) (.br (.adj [] (.adj [] (.adj [] .nil))) (.adj [] (.adj [] (.adj [] (.adj [] .nil)))))))))))) (to_goal (q := (0 ≤ (52 : Int)) ∧ (True) ∧ (True) ∧ (True) ∧ ((((bits .and .u64 (shr .u64 a0 (52 : Int)) (2047 : Int)) == (0 : Int)) = true → (((bits .and .u64 (shr .u64 a0 (52 : Int)) (2047 : Int)) == (0 : Int)) = true ∧ (True) ∧ (((bits .and .u64 (shr .u64 a0 (52 : Int)) (2047 : Int)) == (0 : Int)) = true ∧ ((((bits .and .u64 a0 (4503599627370495 : Int)) == (0 : Int)) = true → (True ∧ (True ∧ ((True) ∧ (True) ∧ (.v (.one (.sc (.int .i64 (0 : Int)))) : Tm) = soft_Class.R r ∧ ([] : List Box) = [])))) ∧ (((bits .and .u64 a0 (4503599627370495 : Int)) == (0 : Int)) = false → (True) ∧ (((bits .and .u64 (shr .u64 a0 (52 : Int)) (2047 : Int)) == (0 : Int)) = true ∧ (True ∧ (True ∧ ((True) ∧ (True) ∧ (.v (.one (.sc (.int .i64 (1 : Int)))) : Tm) = soft_Class.R r ∧ ([] : List Box) = []))))))))) ∧ (((bits .and .u64 (shr .u64 a0 (52 : Int)) (2047 : Int)) == (0 : Int)) = false → (((bits .and .u64 (shr .u64 a0 (52 : Int)) (2047 : Int)) == (0 : Int)) = false ∧ (((bits .and .u64 (shr .u64 a0 (52 : Int)) (2047 : Int)) == (0 : Int)) = false ∧ (false = false ∧ (True) ∧ (((bits .and .u64 (shr .u64 a0 (52 : Int)) (2047 : Int)) == (0 : Int)) = false ∧ (True) ∧ (((decide ((bits .and .u64 (shr .u64 a0 (52 : Int)) (2047 : Int)) < (2047 : Int))) = true → (True ∧ (True ∧ ((True) ∧ (True) ∧ (.v (.one (.sc (.int .i64 (2 : Int)))) : Tm) = soft_Class.R r ∧ ([] : List Box) = [])))) ∧ ((decide ((bits .and .u64 (shr .u64 a0 (52 : Int)) (2047 : Int)) < (2047 : Int))) = false → (True) ∧ ((((bits .and .u64 a0 (4503599627370495 : Int)) == (0 : Int)) = true → (True ∧ (True ∧ ((True) ∧ (True) ∧ (.v (.one (.sc (.int .i64 (3 : Int)))) : Tm) = soft_Class.R r ∧ ([] : List Box) = [])))) ∧ (((bits .and .u64 a0 (4503599627370495 : Int)) == (0 : Int)) = false → (True ∧ (True ∧ (True ∧ ((True) ∧ (True) ∧ (.v (.one (.sc (.int .i64 (4 : Int)))) : Tm) = soft_Class.R r ∧ ([] : List Box) = []))))))))))))))) (by kernel_rfl) ?_)
  refine ⟨(by decide), ?_⟩
  refine ⟨trivial, ?_⟩
  refine ⟨trivial, ?_⟩
  refine ⟨trivial, ?_⟩
  refine ⟨fun b1 => ?_, fun b1 => ?_⟩
  · rw [if_pos (beq_t b1)] at h
    refine ⟨b1, ?_⟩
    refine ⟨trivial, ?_⟩
    refine ⟨b1, ?_⟩
    refine ⟨fun b2 => ?_, fun b2 => ?_⟩
    · rw [if_pos (beq_t b2)] at h
      refine ⟨trivial, ?_⟩
      refine ⟨trivial, ?_⟩
      obtain rfl := Option.some.inj h
      exact ⟨trivial, trivial, rfl, rfl⟩
    · rw [if_neg (beq_f b2)] at h
      refine ⟨trivial, ?_⟩
      refine ⟨b1, ?_⟩
      refine ⟨trivial, ?_⟩
      refine ⟨trivial, ?_⟩
      obtain rfl := Option.some.inj h
      exact ⟨trivial, trivial, rfl, rfl⟩
  · rw [if_neg (beq_f b1)] at h
    refine ⟨b1, ?_⟩
    refine ⟨b1, ?_⟩
    refine ⟨rfl, ?_⟩
    refine ⟨trivial, ?_⟩
    refine ⟨b1, ?_⟩
    refine ⟨trivial, ?_⟩
    refine ⟨fun b3 => ?_, fun b3 => ?_⟩
    · rw [if_pos (of_decide_eq_true b3)] at h
      refine ⟨trivial, ?_⟩
      refine ⟨trivial, ?_⟩
      obtain rfl := Option.some.inj h
      exact ⟨trivial, trivial, rfl, rfl⟩
    · rw [if_neg (of_decide_eq_false b3)] at h
      refine ⟨trivial, ?_⟩
      refine ⟨fun b4 => ?_, fun b4 => ?_⟩
      · rw [if_pos (beq_t b4)] at h
        refine ⟨trivial, ?_⟩
        refine ⟨trivial, ?_⟩
        obtain rfl := Option.some.inj h
        exact ⟨trivial, trivial, rfl, rfl⟩
      · rw [if_neg (beq_f b4)] at h
        refine ⟨trivial, ?_⟩
        refine ⟨trivial, ?_⟩
        refine ⟨trivial, ?_⟩
        obtain rfl := Option.some.inj h
        exact ⟨trivial, trivial, rfl, rfl⟩
/-! halter/halterlaw02.sure -/
def halterlaw02_sure.f : Option Bool :=
  (soft_Add.f (4607182418800017408 : Int) (4607182418800017408 : Int)).bind fun t1 =>
  if t1 = (4611686018427387904 : Int) then
    (soft_Div.f (4607182418800017408 : Int) (0 : Int)).bind fun t3 =>
    if t3 = (9218868437227405312 : Int) then
      (soft_Sqrt.f (9223372036854775808 : Int)).bind fun t5 =>
      if t5 = (9223372036854775808 : Int) then
        (soft_Cmp.f (4607182418800017408 : Int) (4611686018427387904 : Int)).bind fun t7 =>
        if t7 = (-1 : Int) then
          (soft_ToInt.f (4611686018427387904 : Int)).bind fun t9 =>
          if t9 = (2 : Int) then
            (soft_FromInt.f (4294967295 : Int)).bind fun t11 =>
            if t11 = (13830554455654793216 : Int) then
              (soft_Class.f (1 : Int)).bind fun t13 =>
              if t13 = (1 : Int) then
                (soft_Mul.f (4611686018427387904 : Int) (4611686018427387904 : Int)).bind fun t15 =>
                some (t15 == (4616189618054758400 : Int))
              else
                some false
            else
              some false
          else
            some false
        else
          some false
      else
        some false
    else
      some false
  else
    some false
def halterlaw02_sure.R (r : Bool) : Tm := .v (.one (.sc (.bool r)))
theorem halterlaw02_sure.fun_ {r : Bool} (h : halterlaw02_sure.f = some r) : Fun cfg 15 [] [] (halterlaw02_sure.R r) [] := by
  unfold halterlaw02_sure.f at h
  refine fun_of_run cfg_ok (f := 15) (fn := Try.f15) Try.func15 rfl (by kernel_rfl) (rs := [.tmp 0]) rfl (nt := 31) rfl (l := fin) (k := (.call true [] (Int) (fun t1 => soft_Add.R t1) (fun t1 => (.br (.call true [] (Int) (fun t3 => soft_Div.R t3) (fun t3 => (.one true (.one true (.br (.call true [] (Int) (fun t5 => soft_Sqrt.R t5) (fun t5 => (.one true (.one true (.br (.call true [] (Int) (fun t7 => soft_Cmp.R t7) (fun t7 => (.one true (.one true (.br (.call true [] (Int) (fun t9 => soft_ToInt.R t9) (fun t9 => (.one true (.one true (.br (.call true [] (Int) (fun t11 => soft_FromInt.R t11) (fun t11 => (.one true (.one true (.br (.call true [] (Int) (fun t13 => soft_Class.R t13) (fun t13 => (.one true (.one true (.br (.call true [] (Int) (fun t15 => soft_Mul.R t15) (fun t15 => (.one true (.one true (.adj [] (.adj [] .nil)))))) (.one false (.one false (.adj [] (.adj [] .nil))))))))) (.one false (.one false (.one false (.one false (.one false (.adj [] (.adj [] .nil)))))))))))) (.one false (.one false (.one false (.one false (.one false (.one false (.one false (.one false (.adj [] (.adj [] .nil))))))))))))))) (.one false (.one false (.one false (.one false (.one false (.one false (.one false (.one false (.one false (.one false (.one false (.adj [] (.adj [] .nil)))))))))))))))))) (.one false (.one false (.one false (.one false (.one false (.one false (.one false (.one false (.one false (.one false (.one false (.one false (.one false (.one false (.adj [] (.adj [] .nil))))))))))))))))))))) (.one false (.one false (.one false (.one false (.one false (.one false (.one false (.one false (.one false (.one false (.one false (.one false (.one false (.one false (.one false (.one false (.one false (.adj [] (.adj [] .nil)))))))))))))))))))))))) (.one false (.one false (.one false (.one false (.one false (.one false (.one false (.one false (.one false (.one false (.one false (.one false (.one false (.one false (.one false (.one false (.one false (.one false (.one false (.one false (.adj [] (.adj [] .nil)))))))))))))))))))))))))) (to_goal (q := (∃ t1 : Int, (Fun cfg 16 [.one (.sc (.int .u64 (4607182418800017408 : Int))), .one (.sc (.int .u64 (4607182418800017408 : Int)))] [] (soft_Add.R t1) [] ∧ True) ∧ (True) ∧ (((t1 == (4611686018427387904 : Int)) = true → (∃ t3 : Int, (Fun cfg 11 [.one (.sc (.int .u64 (4607182418800017408 : Int))), .one (.sc (.int .u64 (0 : Int)))] [] (soft_Div.R t3) [] ∧ True) ∧ ((t1 == (4611686018427387904 : Int)) = true ∧ (True) ∧ ((t1 == (4611686018427387904 : Int)) = true ∧ (((t3 == (9218868437227405312 : Int)) = true → (∃ t5 : Int, (Fun cfg 13 [.one (.sc (.int .u64 (9223372036854775808 : Int)))] [] (soft_Sqrt.R t5) [] ∧ True) ∧ ((t3 == (9218868437227405312 : Int)) = true ∧ (True) ∧ ((t3 == (9218868437227405312 : Int)) = true ∧ (((t5 == (9223372036854775808 : Int)) = true → (∃ t7 : Int, (Fun cfg 24 [.one (.sc (.int .u64 (4607182418800017408 : Int))), .one (.sc (.int .u64 (4611686018427387904 : Int)))] [] (soft_Cmp.R t7) [] ∧ True) ∧ ((t5 == (9223372036854775808 : Int)) = true ∧ (True) ∧ ((t5 == (9223372036854775808 : Int)) = true ∧ (((t7 == (-1 : Int)) = true → (∃ t9 : Int, (Fun cfg 25 [.one (.sc (.int .u64 (4611686018427387904 : Int)))] [] (soft_ToInt.R t9) [] ∧ True) ∧ ((t7 == (-1 : Int)) = true ∧ (True) ∧ ((t7 == (-1 : Int)) = true ∧ (((t9 == (2 : Int)) = true → (∃ t11 : Int, (Fun cfg 23 [.one (.sc (.int .u32 (4294967295 : Int)))] [] (soft_FromInt.R t11) [] ∧ True) ∧ ((t9 == (2 : Int)) = true ∧ (True) ∧ ((t9 == (2 : Int)) = true ∧ (((t11 == (13830554455654793216 : Int)) = true → (∃ t13 : Int, (Fun cfg 20 [.one (.sc (.int .u64 (1 : Int)))] [] (soft_Class.R t13) [] ∧ True) ∧ ((t11 == (13830554455654793216 : Int)) = true ∧ (True) ∧ ((t11 == (13830554455654793216 : Int)) = true ∧ (((t13 == (1 : Int)) = true → (∃ t15 : Int, (Fun cfg 9 [.one (.sc (.int .u64 (4611686018427387904 : Int))), .one (.sc (.int .u64 (4611686018427387904 : Int)))] [] (soft_Mul.R t15) [] ∧ True) ∧ ((t13 == (1 : Int)) = true ∧ (True) ∧ ((t13 == (1 : Int)) = true ∧ (True ∧ ((True) ∧ (True) ∧ (.v (.one (.sc (.bool (t15 == (4616189618054758400 : Int))))) : Tm) = halterlaw02_sure.R r ∧ ([] : List Box) = [])))))) ∧ ((t13 == (1 : Int)) = false → ((t13 == (1 : Int)) = false ∧ ((t13 == (1 : Int)) = false ∧ (True ∧ ((True) ∧ (True) ∧ (.v (.one (.sc (.bool false))) : Tm) = halterlaw02_sure.R r ∧ ([] : List Box) = [])))))))))) ∧ ((t11 == (13830554455654793216 : Int)) = false → ((t11 == (13830554455654793216 : Int)) = false ∧ ((t11 == (13830554455654793216 : Int)) = false ∧ (false = false ∧ (false = false ∧ (false = false ∧ (True ∧ ((True) ∧ (True) ∧ (.v (.one (.sc (.bool false))) : Tm) = halterlaw02_sure.R r ∧ ([] : List Box) = []))))))))))))) ∧ ((t9 == (2 : Int)) = false → ((t9 == (2 : Int)) = false ∧ ((t9 == (2 : Int)) = false ∧ (false = false ∧ (false = false ∧ (false = false ∧ (false = false ∧ (false = false ∧ (false = false ∧ (True ∧ ((True) ∧ (True) ∧ (.v (.one (.sc (.bool false))) : Tm) = halterlaw02_sure.R r ∧ ([] : List Box) = [])))))))))))))))) ∧ ((t7 == (-1 : Int)) = false → ((t7 == (-1 : Int)) = false ∧ ((t7 == (-1 : Int)) = false ∧ (false = false ∧ (false = false ∧ (false = false ∧ (false = false ∧ (false = false ∧ (false = false ∧ (false = false ∧ (false = false ∧ (false = false ∧ (True ∧ ((True) ∧ (True) ∧ (.v (.one (.sc (.bool false))) : Tm) = halterlaw02_sure.R r ∧ ([] : List Box) = []))))))))))))))))))) ∧ ((t5 == (9223372036854775808 : Int)) = false → ((t5 == (9223372036854775808 : Int)) = false ∧ ((t5 == (9223372036854775808 : Int)) = false ∧ (false = false ∧ (false = false ∧ (false = false ∧ (false = false ∧ (false = false ∧ (false = false ∧ (false = false ∧ (false = false ∧ (false = false ∧ (false = false ∧ (false = false ∧ (false = false ∧ (True ∧ ((True) ∧ (True) ∧ (.v (.one (.sc (.bool false))) : Tm) = halterlaw02_sure.R r ∧ ([] : List Box) = [])))))))))))))))))))))) ∧ ((t3 == (9218868437227405312 : Int)) = false → ((t3 == (9218868437227405312 : Int)) = false ∧ ((t3 == (9218868437227405312 : Int)) = false ∧ (false = false ∧ (false = false ∧ (false = false ∧ (false = false ∧ (false = false ∧ (false = false ∧ (false = false ∧ (false = false ∧ (false = false ∧ (false = false ∧ (false = false ∧ (false = false ∧ (false = false ∧ (false = false ∧ (false = false ∧ (True ∧ ((True) ∧ (True) ∧ (.v (.one (.sc (.bool false))) : Tm) = halterlaw02_sure.R r ∧ ([] : List Box) = []))))))))))))))))))))))))) ∧ ((t1 == (4611686018427387904 : Int)) = false → ((t1 == (4611686018427387904 : Int)) = false ∧ ((t1 == (4611686018427387904 : Int)) = false ∧ (false = false ∧ (false = false ∧ (false = false ∧ (false = false ∧ (false = false ∧ (false = false ∧ (false = false ∧ (false = false ∧ (false = false ∧ (false = false ∧ (false = false ∧ (false = false ∧ (false = false ∧ (false = false ∧ (false = false ∧ (false = false ∧ (false = false ∧ (false = false ∧ (True ∧ ((True) ∧ (True) ∧ (.v (.one (.sc (.bool false))) : Tm) = halterlaw02_sure.R r ∧ ([] : List Box) = [])))))))))))))))))))))))))) (by kernel_rfl) ?_)
  obtain ⟨t1, ht1, h⟩ := of_bind h
  refine ⟨t1, ⟨soft_Add.fun_ ht1, trivial⟩, ?_⟩
  refine ⟨trivial, ?_⟩
  refine ⟨fun b2 => ?_, fun b2 => ?_⟩
  · rw [if_pos (beq_t b2)] at h
    obtain ⟨t3, ht3, h⟩ := of_bind h
    refine ⟨t3, ⟨soft_Div.fun_ ht3, trivial⟩, ?_⟩
    refine ⟨b2, ?_⟩
    refine ⟨trivial, ?_⟩
    refine ⟨b2, ?_⟩
    refine ⟨fun b4 => ?_, fun b4 => ?_⟩
    · rw [if_pos (beq_t b4)] at h
      obtain ⟨t5, ht5, h⟩ := of_bind h
      refine ⟨t5, ⟨soft_Sqrt.fun_ ht5, trivial⟩, ?_⟩
      refine ⟨b4, ?_⟩
      refine ⟨trivial, ?_⟩
      refine ⟨b4, ?_⟩
      refine ⟨fun b6 => ?_, fun b6 => ?_⟩
      · rw [if_pos (beq_t b6)] at h
        obtain ⟨t7, ht7, h⟩ := of_bind h
        refine ⟨t7, ⟨soft_Cmp.fun_ ht7, trivial⟩, ?_⟩
        refine ⟨b6, ?_⟩
        refine ⟨trivial, ?_⟩
        refine ⟨b6, ?_⟩
        refine ⟨fun b8 => ?_, fun b8 => ?_⟩
        · rw [if_pos (beq_t b8)] at h
          obtain ⟨t9, ht9, h⟩ := of_bind h
          refine ⟨t9, ⟨soft_ToInt.fun_ ht9, trivial⟩, ?_⟩
          refine ⟨b8, ?_⟩
          refine ⟨trivial, ?_⟩
          refine ⟨b8, ?_⟩
          refine ⟨fun b10 => ?_, fun b10 => ?_⟩
          · rw [if_pos (beq_t b10)] at h
            obtain ⟨t11, ht11, h⟩ := of_bind h
            refine ⟨t11, ⟨soft_FromInt.fun_ ht11, trivial⟩, ?_⟩
            refine ⟨b10, ?_⟩
            refine ⟨trivial, ?_⟩
            refine ⟨b10, ?_⟩
            refine ⟨fun b12 => ?_, fun b12 => ?_⟩
            · rw [if_pos (beq_t b12)] at h
              obtain ⟨t13, ht13, h⟩ := of_bind h
              refine ⟨t13, ⟨soft_Class.fun_ ht13, trivial⟩, ?_⟩
              refine ⟨b12, ?_⟩
              refine ⟨trivial, ?_⟩
              refine ⟨b12, ?_⟩
              refine ⟨fun b14 => ?_, fun b14 => ?_⟩
              · rw [if_pos (beq_t b14)] at h
                obtain ⟨t15, ht15, h⟩ := of_bind h
                refine ⟨t15, ⟨soft_Mul.fun_ ht15, trivial⟩, ?_⟩
                refine ⟨b14, ?_⟩
                refine ⟨trivial, ?_⟩
                refine ⟨b14, ?_⟩
                refine ⟨trivial, ?_⟩
                obtain rfl := Option.some.inj h
                exact ⟨trivial, trivial, rfl, rfl⟩
              · rw [if_neg (beq_f b14)] at h
                refine ⟨b14, ?_⟩
                refine ⟨b14, ?_⟩
                refine ⟨trivial, ?_⟩
                obtain rfl := Option.some.inj h
                exact ⟨trivial, trivial, rfl, rfl⟩
            · rw [if_neg (beq_f b12)] at h
              refine ⟨b12, ?_⟩
              refine ⟨b12, ?_⟩
              refine ⟨rfl, ?_⟩
              refine ⟨rfl, ?_⟩
              refine ⟨rfl, ?_⟩
              refine ⟨trivial, ?_⟩
              obtain rfl := Option.some.inj h
              exact ⟨trivial, trivial, rfl, rfl⟩
          · rw [if_neg (beq_f b10)] at h
            refine ⟨b10, ?_⟩
            refine ⟨b10, ?_⟩
            refine ⟨rfl, ?_⟩
            refine ⟨rfl, ?_⟩
            refine ⟨rfl, ?_⟩
            refine ⟨rfl, ?_⟩
            refine ⟨rfl, ?_⟩
            refine ⟨rfl, ?_⟩
            refine ⟨trivial, ?_⟩
            obtain rfl := Option.some.inj h
            exact ⟨trivial, trivial, rfl, rfl⟩
        · rw [if_neg (beq_f b8)] at h
          refine ⟨b8, ?_⟩
          refine ⟨b8, ?_⟩
          refine ⟨rfl, ?_⟩
          refine ⟨rfl, ?_⟩
          refine ⟨rfl, ?_⟩
          refine ⟨rfl, ?_⟩
          refine ⟨rfl, ?_⟩
          refine ⟨rfl, ?_⟩
          refine ⟨rfl, ?_⟩
          refine ⟨rfl, ?_⟩
          refine ⟨rfl, ?_⟩
          refine ⟨trivial, ?_⟩
          obtain rfl := Option.some.inj h
          exact ⟨trivial, trivial, rfl, rfl⟩
      · rw [if_neg (beq_f b6)] at h
        refine ⟨b6, ?_⟩
        refine ⟨b6, ?_⟩
        refine ⟨rfl, ?_⟩
        refine ⟨rfl, ?_⟩
        refine ⟨rfl, ?_⟩
        refine ⟨rfl, ?_⟩
        refine ⟨rfl, ?_⟩
        refine ⟨rfl, ?_⟩
        refine ⟨rfl, ?_⟩
        refine ⟨rfl, ?_⟩
        refine ⟨rfl, ?_⟩
        refine ⟨rfl, ?_⟩
        refine ⟨rfl, ?_⟩
        refine ⟨rfl, ?_⟩
        refine ⟨trivial, ?_⟩
        obtain rfl := Option.some.inj h
        exact ⟨trivial, trivial, rfl, rfl⟩
    · rw [if_neg (beq_f b4)] at h
      refine ⟨b4, ?_⟩
      refine ⟨b4, ?_⟩
      refine ⟨rfl, ?_⟩
      refine ⟨rfl, ?_⟩
      refine ⟨rfl, ?_⟩
      refine ⟨rfl, ?_⟩
      refine ⟨rfl, ?_⟩
      refine ⟨rfl, ?_⟩
      refine ⟨rfl, ?_⟩
      refine ⟨rfl, ?_⟩
      refine ⟨rfl, ?_⟩
      refine ⟨rfl, ?_⟩
      refine ⟨rfl, ?_⟩
      refine ⟨rfl, ?_⟩
      refine ⟨rfl, ?_⟩
      refine ⟨rfl, ?_⟩
      refine ⟨rfl, ?_⟩
      refine ⟨trivial, ?_⟩
      obtain rfl := Option.some.inj h
      exact ⟨trivial, trivial, rfl, rfl⟩
  · rw [if_neg (beq_f b2)] at h
    refine ⟨b2, ?_⟩
    refine ⟨b2, ?_⟩
    refine ⟨rfl, ?_⟩
    refine ⟨rfl, ?_⟩
    refine ⟨rfl, ?_⟩
    refine ⟨rfl, ?_⟩
    refine ⟨rfl, ?_⟩
    refine ⟨rfl, ?_⟩
    refine ⟨rfl, ?_⟩
    refine ⟨rfl, ?_⟩
    refine ⟨rfl, ?_⟩
    refine ⟨rfl, ?_⟩
    refine ⟨rfl, ?_⟩
    refine ⟨rfl, ?_⟩
    refine ⟨rfl, ?_⟩
    refine ⟨rfl, ?_⟩
    refine ⟨rfl, ?_⟩
    refine ⟨rfl, ?_⟩
    refine ⟨rfl, ?_⟩
    refine ⟨rfl, ?_⟩
    refine ⟨trivial, ?_⟩
    obtain rfl := Option.some.inj h
    exact ⟨trivial, trivial, rfl, rfl⟩
/-! halter/halterlaw02.SoftSums -/
def halterlaw02_SoftSums.f (a0 : Int) (a1 : Int) : Option Bool :=
  (soft_Add.f a0 a1).bind fun t1 =>
  (halterref02_Add.f a0 a1).bind fun t2 =>
  if t1 = t2 then
    (soft_Sub.f a0 a1).bind fun t4 =>
    (halterlaw02_minus.f a1).bind fun t5 =>
    (halterref02_Add.f a0 t5).bind fun t6 =>
    if t4 = t6 then
      (soft_Class.f a0).bind fun t8 =>
      (halterref02_Class.f a0).bind fun t9 =>
      if t8 = t9 then
        halterlaw02_sure.f.bind fun t11 =>
        some t11
      else
        some false
    else
      some false
  else
    some false
def halterlaw02_SoftSums.R (r : Bool) : Tm := .v (.one (.sc (.bool r)))
theorem halterlaw02_SoftSums.fun_ {a0 : Int} {a1 : Int} {r : Bool} (h : halterlaw02_SoftSums.f a0 a1 = some r) : Fun cfg 4 [.one (.sc (.int .u64 a0)), .one (.sc (.int .u64 a1))] [] (halterlaw02_SoftSums.R r) [] := by
  unfold halterlaw02_SoftSums.f at h
  refine fun_of_run cfg_ok (f := 4) (fn := Try.f4) Try.func4 rfl (by kernel_rfl) (rs := [.tmp 4]) rfl (nt := 32) rfl (l := fin) (k := (.call true [] (Int) (fun t1 => soft_Add.R t1) (fun t1 => (.call true [] (Int) (fun t2 => halterref02_Add.R t2) (fun t2 => (.br (.one true (.one true (.call true [] (Int) (fun t4 => soft_Sub.R t4) (fun t4 => (.one true (.one true (.one true (.call true [] (Int) (fun t5 => halterlaw02_minus.R t5) (fun t5 => (.one true (.call true [] (Int) (fun t6 => halterref02_Add.R t6) (fun t6 => (.one true (.one true (.br (.one true (.call true [] (Int) (fun t8 => soft_Class.R t8) (fun t8 => (.one true (.one true (.call true [] (Int) (fun t9 => halterref02_Class.R t9) (fun t9 => (.one true (.one true (.br (.call true [] (Bool) (fun t11 => halterlaw02_sure.R t11) (fun t11 => (.one true (.adj [] (.adj [] .nil))))) (.one false (.adj [] (.adj [] .nil))))))))))))) (.one false (.one false (.one false (.one false (.one false (.one false (.one false (.adj [] (.adj [] .nil)))))))))))))))))))))))) (.one false (.one false (.one false (.one false (.one false (.one false (.one false (.one false (.one false (.one false (.one false (.one false (.one false (.one false (.one false (.one false (.adj [] (.adj [] .nil)))))))))))))))))))))))) (to_goal (q := (∃ t1 : Int, (Fun cfg 16 [.one (.sc (.int .u64 a0)), .one (.sc (.int .u64 a1))] [] (soft_Add.R t1) [] ∧ True) ∧ (∃ t2 : Int, (Fun cfg 17 [.one (.sc (.int .u64 a0)), .one (.sc (.int .u64 a1))] [] (halterref02_Add.R t2) [] ∧ True) ∧ (True) ∧ (((t1 == t2) = true → ((t1 == t2) = true ∧ ((t1 == t2) = true ∧ (∃ t4 : Int, (Fun cfg 18 [.one (.sc (.int .u64 a0)), .one (.sc (.int .u64 a1))] [] (soft_Sub.R t4) [] ∧ True) ∧ ((t1 == t2) = true ∧ ((t1 == t2) = true ∧ ((t1 == t2) = true ∧ (∃ t5 : Int, (Fun cfg 19 [.one (.sc (.int .u64 a1))] [] (halterlaw02_minus.R t5) [] ∧ True) ∧ ((t1 == t2) = true ∧ (∃ t6 : Int, (Fun cfg 17 [.one (.sc (.int .u64 a0)), .one (.sc (.int .u64 t5))] [] (halterref02_Add.R t6) [] ∧ True) ∧ ((t1 == t2) = true ∧ (True) ∧ ((t1 == t2) = true ∧ (((t4 == t6) = true → ((t4 == t6) = true ∧ (∃ t8 : Int, (Fun cfg 20 [.one (.sc (.int .u64 a0))] [] (soft_Class.R t8) [] ∧ True) ∧ ((t4 == t6) = true ∧ ((t4 == t6) = true ∧ (∃ t9 : Int, (Fun cfg 21 [.one (.sc (.int .u64 a0))] [] (halterref02_Class.R t9) [] ∧ True) ∧ ((t4 == t6) = true ∧ (True) ∧ ((t4 == t6) = true ∧ (((t8 == t9) = true → (∃ t11 : Bool, (Fun cfg 15 [] [] (halterlaw02_sure.R t11) [] ∧ True) ∧ ((t8 == t9) = true ∧ (True ∧ ((True) ∧ (True) ∧ (.v (.one (.sc (.bool t11))) : Tm) = halterlaw02_SoftSums.R r ∧ ([] : List Box) = []))))) ∧ ((t8 == t9) = false → ((t8 == t9) = false ∧ (True ∧ ((True) ∧ (True) ∧ (.v (.one (.sc (.bool false))) : Tm) = halterlaw02_SoftSums.R r ∧ ([] : List Box) = []))))))))))))) ∧ ((t4 == t6) = false → ((t4 == t6) = false ∧ ((t4 == t6) = false ∧ ((t4 == t6) = false ∧ ((t4 == t6) = false ∧ ((t4 == t6) = false ∧ (false = false ∧ (false = false ∧ (True ∧ ((True) ∧ (True) ∧ (.v (.one (.sc (.bool false))) : Tm) = halterlaw02_SoftSums.R r ∧ ([] : List Box) = []))))))))))))))))))))))) ∧ ((t1 == t2) = false → ((t1 == t2) = false ∧ ((t1 == t2) = false ∧ ((t1 == t2) = false ∧ ((t1 == t2) = false ∧ ((t1 == t2) = false ∧ ((t1 == t2) = false ∧ ((t1 == t2) = false ∧ ((t1 == t2) = false ∧ (false = false ∧ (false = false ∧ (false = false ∧ (false = false ∧ (false = false ∧ (false = false ∧ (false = false ∧ (false = false ∧ (True ∧ ((True) ∧ (True) ∧ (.v (.one (.sc (.bool false))) : Tm) = halterlaw02_SoftSums.R r ∧ ([] : List Box) = []))))))))))))))))))))))) (by kernel_rfl) ?_)
  obtain ⟨t1, ht1, h⟩ := of_bind h
  refine ⟨t1, ⟨soft_Add.fun_ ht1, trivial⟩, ?_⟩
  obtain ⟨t2, ht2, h⟩ := of_bind h
  refine ⟨t2, ⟨halterref02_Add.fun_ ht2, trivial⟩, ?_⟩
  refine ⟨trivial, ?_⟩
  refine ⟨fun b3 => ?_, fun b3 => ?_⟩
  · rw [if_pos (beq_t b3)] at h
    refine ⟨b3, ?_⟩
    refine ⟨b3, ?_⟩
    obtain ⟨t4, ht4, h⟩ := of_bind h
    refine ⟨t4, ⟨soft_Sub.fun_ ht4, trivial⟩, ?_⟩
    refine ⟨b3, ?_⟩
    refine ⟨b3, ?_⟩
    refine ⟨b3, ?_⟩
    obtain ⟨t5, ht5, h⟩ := of_bind h
    refine ⟨t5, ⟨halterlaw02_minus.fun_ ht5, trivial⟩, ?_⟩
    refine ⟨b3, ?_⟩
    obtain ⟨t6, ht6, h⟩ := of_bind h
    refine ⟨t6, ⟨halterref02_Add.fun_ ht6, trivial⟩, ?_⟩
    refine ⟨b3, ?_⟩
    refine ⟨trivial, ?_⟩
    refine ⟨b3, ?_⟩
    refine ⟨fun b7 => ?_, fun b7 => ?_⟩
    · rw [if_pos (beq_t b7)] at h
      refine ⟨b7, ?_⟩
      obtain ⟨t8, ht8, h⟩ := of_bind h
      refine ⟨t8, ⟨soft_Class.fun_ ht8, trivial⟩, ?_⟩
      refine ⟨b7, ?_⟩
      refine ⟨b7, ?_⟩
      obtain ⟨t9, ht9, h⟩ := of_bind h
      refine ⟨t9, ⟨halterref02_Class.fun_ ht9, trivial⟩, ?_⟩
      refine ⟨b7, ?_⟩
      refine ⟨trivial, ?_⟩
      refine ⟨b7, ?_⟩
      refine ⟨fun b10 => ?_, fun b10 => ?_⟩
      · rw [if_pos (beq_t b10)] at h
        obtain ⟨t11, ht11, h⟩ := of_bind h
        refine ⟨t11, ⟨halterlaw02_sure.fun_ ht11, trivial⟩, ?_⟩
        refine ⟨b10, ?_⟩
        refine ⟨trivial, ?_⟩
        obtain rfl := Option.some.inj h
        exact ⟨trivial, trivial, rfl, rfl⟩
      · rw [if_neg (beq_f b10)] at h
        refine ⟨b10, ?_⟩
        refine ⟨trivial, ?_⟩
        obtain rfl := Option.some.inj h
        exact ⟨trivial, trivial, rfl, rfl⟩
    · rw [if_neg (beq_f b7)] at h
      refine ⟨b7, ?_⟩
      refine ⟨b7, ?_⟩
      refine ⟨b7, ?_⟩
      refine ⟨b7, ?_⟩
      refine ⟨b7, ?_⟩
      refine ⟨rfl, ?_⟩
      refine ⟨rfl, ?_⟩
      refine ⟨trivial, ?_⟩
      obtain rfl := Option.some.inj h
      exact ⟨trivial, trivial, rfl, rfl⟩
  · rw [if_neg (beq_f b3)] at h
    refine ⟨b3, ?_⟩
    refine ⟨b3, ?_⟩
    refine ⟨b3, ?_⟩
    refine ⟨b3, ?_⟩
    refine ⟨b3, ?_⟩
    refine ⟨b3, ?_⟩
    refine ⟨b3, ?_⟩
    refine ⟨b3, ?_⟩
    refine ⟨rfl, ?_⟩
    refine ⟨rfl, ?_⟩
    refine ⟨rfl, ?_⟩
    refine ⟨rfl, ?_⟩
    refine ⟨rfl, ?_⟩
    refine ⟨rfl, ?_⟩
    refine ⟨rfl, ?_⟩
    refine ⟨rfl, ?_⟩
    refine ⟨trivial, ?_⟩
    obtain rfl := Option.some.inj h
    exact ⟨trivial, trivial, rfl, rfl⟩
end Go.Proofs.YtkaehhfdjenmcaaGSoftSums
