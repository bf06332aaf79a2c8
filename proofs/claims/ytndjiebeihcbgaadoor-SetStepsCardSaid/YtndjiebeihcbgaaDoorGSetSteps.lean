/- Printed by gen.py: the next part. -/
import Derived.Test.YtndjiebeihcbgaaDoorGSetStepsp0
set_option linter.unusedVariables false
set_option maxRecDepth 100000
set_option maxHeartbeats 4000000
namespace Go.Proofs.YtndjiebeihcbgaaDoorGSetSteps
open Go Go.Proofs.YtndjiebeihcbgaaDoorE
theorem halterlaw03_SetSteps.fun_ {a0 : Int} {a1 : Int} {r : Bool} (h : halterlaw03_SetSteps.f a0 a1 = some r) : Fun cfg 3 [.one (.sc (.int .u32 a0)), .one (.sc (.int .i64 a1))] [] (halterlaw03_SetSteps.R r) [] := by
  unfold halterlaw03_SetSteps.f at h
  refine fun_of_run cfg_ok (f := 3) (fn := Tryd.f3) Tryd.func3 rfl (by kernel_rfl) (rs := [.tmp 4]) rfl (nt := 72) rfl (l := fin) (k := (.callR true [] [] ((List Int)) (fun t1 => (halterref03_List.R t1)) (fun t1 => (halterref03_List.B a0 t1)) (fun t1 => (.br (.call true [] (Int) (fun t3 => sigset_Add.R t3) (fun t3 => (.call true [] (Int) (fun t4 => halterref03_Add.R t4) (fun t4 => (.br (.one true (.one true (.call true [] (Int) (fun t6 => sigset_Del.R t6) (fun t6 => (.one true (.one true (.one true (.call true [] (Int) (fun t7 => halterref03_Del.R t7) (fun t7 => (.one true (.one true (.br (.one true (.one true (.call true [] (Bool) (fun t9 => sigset_Has.R t9) (fun t9 => (.one true (.one true (.one true (.call true [] (Bool) (fun t10 => halterref03_Has.R t10) (fun t10 => (.one true (.one true (.br (.one true (.call true [] (Int) (fun t12 => sigset_One.R t12) (fun t12 => (.one true (.one true (.one true (.call true [] (Int) (fun t13 => halterref03_Of.R t13) (fun t13 => (.one true (.one true (.br (.one true (.call true [] ((List Int)) (fun t15 => sigset_List.R t15) (fun t15 => (.one true (.one true (.call true [] (Bool) (fun t16 => halterlaw03_ints.R t16) (fun t16 => (.one true (.br (.one true (.call true [] (Int) (fun t18 => sigset_Count.R t18) (fun t18 => (.one true (.one true (.one true (.one true (.br (.one true (.call true [] (Int) (fun t20 => sigset_First.R t20) (fun t20 => (.one true (.one true (.one true (.br (.call true [] (Bool) (fun t22 => halterlaw03_sure.R t22) (fun t22 => (.one true (.adj [] (.adj [.drop 0] .nil))))) (.one false (.adj [] (.adj [.drop 0] .nil)))))))))) (.one false (.one false (.one false (.one false (.one false (.one false (.adj [] (.adj [.drop 0] .nil)))))))))))))))) (.one false (.one false (.one false (.one false (.one false (.one false (.one false (.one false (.one false (.one false (.one false (.one false (.adj [] (.adj [.drop 0] .nil))))))))))))))))))))))) (.one false (.one false (.one false (.one false (.one false (.one false (.one false (.one false (.one false (.one false (.one false (.one false (.one false (.one false (.one false (.one false (.one false (.adj [] (.adj [.drop 0] .nil)))))))))))))))))))))))))))))) (.one false (.one false (.one false (.one false (.one false (.one false (.one false (.one false (.one false (.one false (.one false (.one false (.one false (.one false (.one false (.one false (.one false (.one false (.one false (.one false (.one false (.one false (.one false (.one false (.adj [] (.adj [.drop 0] .nil)))))))))))))))))))))))))))))))))))))) (.one false (.one false (.one false (.one false (.one false (.one false (.one false (.one false (.one false (.one false (.one false (.one false (.one false (.one false (.one false (.one false (.one false (.one false (.one false (.one false (.one false (.one false (.one false (.one false (.one false (.one false (.one false (.one false (.one false (.one false (.one false (.one false (.adj [] (.adj [.drop 0] .nil)))))))))))))))))))))))))))))))))))))))))))))) (.one false (.one false (.one false (.one false (.one false (.one false (.one false (.one false (.one false (.one false (.one false (.one false (.one false (.one false (.one false (.one false (.one false (.one false (.one false (.one false (.one false (.one false (.one false (.one false (.one false (.one false (.one false (.one false (.one false (.one false (.one false (.one false (.one false (.one false (.one false (.one false (.one false (.one false (.one false (.one false (.adj [] (.adj [.drop 0] .nil))))))))))))))))))))))))))))))))))))))))))))))) (.call true [] (Int) (fun t25 => sigset_Add.R t25) (fun t25 => (.call true [] (Int) (fun t26 => halterref03_Add.R t26) (fun t26 => (.br (.one true (.one true (.call true [] (Int) (fun t28 => sigset_Del.R t28) (fun t28 => (.one true (.one true (.one true (.call true [] (Int) (fun t29 => halterref03_Del.R t29) (fun t29 => (.one true (.one true (.br (.one true (.one true (.call true [] (Bool) (fun t31 => sigset_Has.R t31) (fun t31 => (.one true (.one true (.one true (.call true [] (Bool) (fun t32 => halterref03_Has.R t32) (fun t32 => (.one true (.one true (.br (.one true (.call true [] (Int) (fun t34 => sigset_One.R t34) (fun t34 => (.one true (.one true (.one true (.call true [] (Int) (fun t35 => halterref03_Of.R t35) (fun t35 => (.one true (.one true (.br (.one true (.call true [] ((List Int)) (fun t37 => sigset_List.R t37) (fun t37 => (.one true (.one true (.call true [] (Bool) (fun t38 => halterlaw03_ints.R t38) (fun t38 => (.one true (.br (.one true (.call true [] (Int) (fun t40 => sigset_Count.R t40) (fun t40 => (.one true (.one true (.one true (.one true (.br (.one true (.call true [] (Int) (fun t42 => sigset_First.R t42) (fun t42 => (.one true (.one true (.one true (.br (.call true [] (Bool) (fun t44 => halterlaw03_sure.R t44) (fun t44 => (.one true (.adj [] (.adj [.drop 0] .nil))))) (.one false (.adj [] (.adj [.drop 0] .nil)))))))))) (.one false (.one false (.one false (.one false (.one false (.one false (.adj [] (.adj [.drop 0] .nil)))))))))))))))) (.one false (.one false (.one false (.one false (.one false (.one false (.one false (.one false (.one false (.one false (.one false (.one false (.adj [] (.adj [.drop 0] .nil))))))))))))))))))))))) (.one false (.one false (.one false (.one false (.one false (.one false (.one false (.one false (.one false (.one false (.one false (.one false (.one false (.one false (.one false (.one false (.one false (.adj [] (.adj [.drop 0] .nil)))))))))))))))))))))))))))))) (.one false (.one false (.one false (.one false (.one false (.one false (.one false (.one false (.one false (.one false (.one false (.one false (.one false (.one false (.one false (.one false (.one false (.one false (.one false (.one false (.one false (.one false (.one false (.one false (.adj [] (.adj [.drop 0] .nil)))))))))))))))))))))))))))))))))))))) (.one false (.one false (.one false (.one false (.one false (.one false (.one false (.one false (.one false (.one false (.one false (.one false (.one false (.one false (.one false (.one false (.one false (.one false (.one false (.one false (.one false (.one false (.one false (.one false (.one false (.one false (.one false (.one false (.one false (.one false (.one false (.one false (.adj [] (.adj [.drop 0] .nil)))))))))))))))))))))))))))))))))))))))))))))) (.one false (.one false (.one false (.one false (.one false (.one false (.one false (.one false (.one false (.one false (.one false (.one false (.one false (.one false (.one false (.one false (.one false (.one false (.one false (.one false (.one false (.one false (.one false (.one false (.one false (.one false (.one false (.one false (.one false (.one false (.one false (.one false (.one false (.one false (.one false (.one false (.one false (.one false (.one false (.one false (.adj [] (.adj [.drop 0] .nil))))))))))))))))))))))))))))))))))))))))))))))))))) (to_goal (q := (∃ t1 : (List Int), (Fun cfg 7 [.one (.sc (.int .u32 a0))] [] (halterref03_List.R t1) (halterref03_List.B a0 t1) ∧ True) ∧ (True) ∧ (True) ∧ (((decide ((((List.length t1) : Nat) : Int) > (0 : Int))) = true → (0 ≤ (0 : Int) ∧ (0 : Int) < (((List.length t1) : Nat) : Int)) ∧ (0 < (List.length t1)) ∧ (∃ t3 : Int, (Fun cfg 8 [.one (.sc (.int .u32 a0)), .one (.sc (.int .i64 a1))] [] (sigset_Add.R t3) [] ∧ True) ∧ (∃ t4 : Int, (Fun cfg 9 [.one (.sc (.int .u32 a0)), .one (.sc (.int .i64 a1))] [] (halterref03_Add.R t4) [] ∧ True) ∧ (True) ∧ (((t3 == t4) = true → ((t3 == t4) = true ∧ ((t3 == t4) = true ∧ (∃ t6 : Int, (Fun cfg 10 [.one (.sc (.int .u32 a0)), .one (.sc (.int .i64 a1))] [] (sigset_Del.R t6) [] ∧ True) ∧ ((t3 == t4) = true ∧ ((t3 == t4) = true ∧ ((t3 == t4) = true ∧ (∃ t7 : Int, (Fun cfg 11 [.one (.sc (.int .u32 a0)), .one (.sc (.int .i64 a1))] [] (halterref03_Del.R t7) [] ∧ True) ∧ ((t3 == t4) = true ∧ (True) ∧ ((t3 == t4) = true ∧ (((t6 == t7) = true → ((t6 == t7) = true ∧ ((t6 == t7) = true ∧ (∃ t9 : Bool, (Fun cfg 12 [.one (.sc (.int .u32 a0)), .one (.sc (.int .i64 a1))] [] (sigset_Has.R t9) [] ∧ True) ∧ ((t6 == t7) = true ∧ ((t6 == t7) = true ∧ ((t6 == t7) = true ∧ (∃ t10 : Bool, (Fun cfg 13 [.one (.sc (.int .u32 a0)), .one (.sc (.int .i64 a1))] [] (halterref03_Has.R t10) [] ∧ True) ∧ ((t6 == t7) = true ∧ (True) ∧ ((t6 == t7) = true ∧ (((t9 == t10) = true → ((t9 == t10) = true ∧ (∃ t12 : Int, (Fun cfg 14 [.one (.sc (.int .i64 a1))] [] (sigset_One.R t12) [] ∧ True) ∧ ((t9 == t10) = true ∧ ((t9 == t10) = true ∧ ((t9 == t10) = true ∧ (∃ t13 : Int, ((0 = 0 ∧ 1 = 1) ∧ Fun cfg 15 [.one (.fs (.int .i64) [a1] false)] [] (halterref03_Of.R t13) [] ∧ True) ∧ ((t9 == t10) = true ∧ (True) ∧ ((t9 == t10) = true ∧ (((t12 == t13) = true → ((t12 == t13) = true ∧ (∃ t15 : (List Int), (Fun cfg 17 [.one (.sc (.int .u32 a0))] [] (sigset_List.R t15) [] ∧ True) ∧ ((t12 == t13) = true ∧ ((t12 == t13) = true ∧ (∃ t16 : Bool, ((0 = 0 ∧ (List.length t1) = (List.length t1)) ∧ Fun cfg 16 [.one (.fs (.int .i64) t15 false), .one (.fs (.int .i64) t1 false)] [] (halterlaw03_ints.R t16) [] ∧ True) ∧ ((t12 == t13) = true ∧ ((t16 = true → (t16 = true ∧ (∃ t18 : Int, (Fun cfg 18 [.one (.sc (.int .u32 a0))] [] (sigset_Count.R t18) [] ∧ True) ∧ (t16 = true ∧ (t16 = true ∧ (True) ∧ (t16 = true ∧ (True) ∧ (t16 = true ∧ (((t18 == (((List.length t1) : Nat) : Int)) = true → ((t18 == (((List.length t1) : Nat) : Int)) = true ∧ (∃ t20 : Int, (Fun cfg 19 [.one (.sc (.int .u32 a0))] [] (sigset_First.R t20) [] ∧ True) ∧ ((t18 == (((List.length t1) : Nat) : Int)) = true ∧ ((t18 == (((List.length t1) : Nat) : Int)) = true ∧ (True) ∧ ((t18 == (((List.length t1) : Nat) : Int)) = true ∧ (((t20 == (List.getD t1 0 (0 : Int))) = true → (∃ t22 : Bool, (Fun cfg 20 [] [] (halterlaw03_sure.R t22) [] ∧ True) ∧ ((t20 == (List.getD t1 0 (0 : Int))) = true ∧ (True ∧ ((True) ∧ ((True) ∧ True) ∧ (.v (.one (.sc (.bool t22))) : Tm) = halterlaw03_SetSteps.R r ∧ ([] : List Box) = []))))) ∧ ((t20 == (List.getD t1 0 (0 : Int))) = false → ((t20 == (List.getD t1 0 (0 : Int))) = false ∧ (True ∧ ((True) ∧ ((True) ∧ True) ∧ (.v (.one (.sc (.bool false))) : Tm) = halterlaw03_SetSteps.R r ∧ ([] : List Box) = []))))))))))) ∧ ((t18 == (((List.length t1) : Nat) : Int)) = false → ((t18 == (((List.length t1) : Nat) : Int)) = false ∧ ((t18 == (((List.length t1) : Nat) : Int)) = false ∧ ((t18 == (((List.length t1) : Nat) : Int)) = false ∧ ((t18 == (((List.length t1) : Nat) : Int)) = false ∧ (false = false ∧ (false = false ∧ (True ∧ ((True) ∧ ((True) ∧ True) ∧ (.v (.one (.sc (.bool false))) : Tm) = halterlaw03_SetSteps.R r ∧ ([] : List Box) = []))))))))))))))))) ∧ (t16 = false → (t16 = false ∧ (t16 = false ∧ (t16 = false ∧ (t16 = false ∧ (t16 = false ∧ (false = false ∧ (false = false ∧ (false = false ∧ (false = false ∧ (false = false ∧ (false = false ∧ (false = false ∧ (True ∧ ((True) ∧ ((True) ∧ True) ∧ (.v (.one (.sc (.bool false))) : Tm) = halterlaw03_SetSteps.R r ∧ ([] : List Box) = []))))))))))))))))))))))) ∧ ((t12 == t13) = false → ((t12 == t13) = false ∧ ((t12 == t13) = false ∧ ((t12 == t13) = false ∧ ((t12 == t13) = false ∧ (false = false ∧ (false = false ∧ (false = false ∧ (false = false ∧ (false = false ∧ (false = false ∧ (false = false ∧ (false = false ∧ (false = false ∧ (false = false ∧ (false = false ∧ (false = false ∧ (false = false ∧ (True ∧ ((True) ∧ ((True) ∧ True) ∧ (.v (.one (.sc (.bool false))) : Tm) = halterlaw03_SetSteps.R r ∧ ([] : List Box) = [])))))))))))))))))))))))))))))) ∧ ((t9 == t10) = false → ((t9 == t10) = false ∧ ((t9 == t10) = false ∧ ((t9 == t10) = false ∧ ((t9 == t10) = false ∧ ((t9 == t10) = false ∧ ((t9 == t10) = false ∧ (false = false ∧ (false = false ∧ (false = false ∧ (false = false ∧ (false = false ∧ (false = false ∧ (false = false ∧ (false = false ∧ (false = false ∧ (false = false ∧ (false = false ∧ (false = false ∧ (false = false ∧ (false = false ∧ (false = false ∧ (false = false ∧ (false = false ∧ (false = false ∧ (True ∧ ((True) ∧ ((True) ∧ True) ∧ (.v (.one (.sc (.bool false))) : Tm) = halterlaw03_SetSteps.R r ∧ ([] : List Box) = [])))))))))))))))))))))))))))))))))))))) ∧ ((t6 == t7) = false → ((t6 == t7) = false ∧ ((t6 == t7) = false ∧ ((t6 == t7) = false ∧ ((t6 == t7) = false ∧ ((t6 == t7) = false ∧ ((t6 == t7) = false ∧ ((t6 == t7) = false ∧ (false = false ∧ (false = false ∧ (false = false ∧ (false = false ∧ (false = false ∧ (false = false ∧ (false = false ∧ (false = false ∧ (false = false ∧ (false = false ∧ (false = false ∧ (false = false ∧ (false = false ∧ (false = false ∧ (false = false ∧ (false = false ∧ (false = false ∧ (false = false ∧ (false = false ∧ (false = false ∧ (false = false ∧ (false = false ∧ (false = false ∧ (false = false ∧ (false = false ∧ (True ∧ ((True) ∧ ((True) ∧ True) ∧ (.v (.one (.sc (.bool false))) : Tm) = halterlaw03_SetSteps.R r ∧ ([] : List Box) = [])))))))))))))))))))))))))))))))))))))))))))))) ∧ ((t3 == t4) = false → ((t3 == t4) = false ∧ ((t3 == t4) = false ∧ ((t3 == t4) = false ∧ ((t3 == t4) = false ∧ ((t3 == t4) = false ∧ ((t3 == t4) = false ∧ ((t3 == t4) = false ∧ (false = false ∧ (false = false ∧ (false = false ∧ (false = false ∧ (false = false ∧ (false = false ∧ (false = false ∧ (false = false ∧ (false = false ∧ (false = false ∧ (false = false ∧ (false = false ∧ (false = false ∧ (false = false ∧ (false = false ∧ (false = false ∧ (false = false ∧ (false = false ∧ (false = false ∧ (false = false ∧ (false = false ∧ (false = false ∧ (false = false ∧ (false = false ∧ (false = false ∧ (false = false ∧ (false = false ∧ (false = false ∧ (false = false ∧ (false = false ∧ (false = false ∧ (false = false ∧ (false = false ∧ (True ∧ ((True) ∧ ((True) ∧ True) ∧ (.v (.one (.sc (.bool false))) : Tm) = halterlaw03_SetSteps.R r ∧ ([] : List Box) = []))))))))))))))))))))))))))))))))))))))))))))))) ∧ ((decide ((((List.length t1) : Nat) : Int) > (0 : Int))) = false → (∃ t25 : Int, (Fun cfg 8 [.one (.sc (.int .u32 a0)), .one (.sc (.int .i64 a1))] [] (sigset_Add.R t25) [] ∧ True) ∧ (∃ t26 : Int, (Fun cfg 9 [.one (.sc (.int .u32 a0)), .one (.sc (.int .i64 a1))] [] (halterref03_Add.R t26) [] ∧ True) ∧ (True) ∧ (((t25 == t26) = true → ((t25 == t26) = true ∧ ((t25 == t26) = true ∧ (∃ t28 : Int, (Fun cfg 10 [.one (.sc (.int .u32 a0)), .one (.sc (.int .i64 a1))] [] (sigset_Del.R t28) [] ∧ True) ∧ ((t25 == t26) = true ∧ ((t25 == t26) = true ∧ ((t25 == t26) = true ∧ (∃ t29 : Int, (Fun cfg 11 [.one (.sc (.int .u32 a0)), .one (.sc (.int .i64 a1))] [] (halterref03_Del.R t29) [] ∧ True) ∧ ((t25 == t26) = true ∧ (True) ∧ ((t25 == t26) = true ∧ (((t28 == t29) = true → ((t28 == t29) = true ∧ ((t28 == t29) = true ∧ (∃ t31 : Bool, (Fun cfg 12 [.one (.sc (.int .u32 a0)), .one (.sc (.int .i64 a1))] [] (sigset_Has.R t31) [] ∧ True) ∧ ((t28 == t29) = true ∧ ((t28 == t29) = true ∧ ((t28 == t29) = true ∧ (∃ t32 : Bool, (Fun cfg 13 [.one (.sc (.int .u32 a0)), .one (.sc (.int .i64 a1))] [] (halterref03_Has.R t32) [] ∧ True) ∧ ((t28 == t29) = true ∧ (True) ∧ ((t28 == t29) = true ∧ (((t31 == t32) = true → ((t31 == t32) = true ∧ (∃ t34 : Int, (Fun cfg 14 [.one (.sc (.int .i64 a1))] [] (sigset_One.R t34) [] ∧ True) ∧ ((t31 == t32) = true ∧ ((t31 == t32) = true ∧ ((t31 == t32) = true ∧ (∃ t35 : Int, ((0 = 0 ∧ 1 = 1) ∧ Fun cfg 15 [.one (.fs (.int .i64) [a1] false)] [] (halterref03_Of.R t35) [] ∧ True) ∧ ((t31 == t32) = true ∧ (True) ∧ ((t31 == t32) = true ∧ (((t34 == t35) = true → ((t34 == t35) = true ∧ (∃ t37 : (List Int), (Fun cfg 17 [.one (.sc (.int .u32 a0))] [] (sigset_List.R t37) [] ∧ True) ∧ ((t34 == t35) = true ∧ ((t34 == t35) = true ∧ (∃ t38 : Bool, ((0 = 0 ∧ (List.length t1) = (List.length t1)) ∧ Fun cfg 16 [.one (.fs (.int .i64) t37 false), .one (.fs (.int .i64) t1 false)] [] (halterlaw03_ints.R t38) [] ∧ True) ∧ ((t34 == t35) = true ∧ ((t38 = true → (t38 = true ∧ (∃ t40 : Int, (Fun cfg 18 [.one (.sc (.int .u32 a0))] [] (sigset_Count.R t40) [] ∧ True) ∧ (t38 = true ∧ (t38 = true ∧ (True) ∧ (t38 = true ∧ (True) ∧ (t38 = true ∧ (((t40 == (((List.length t1) : Nat) : Int)) = true → ((t40 == (((List.length t1) : Nat) : Int)) = true ∧ (∃ t42 : Int, (Fun cfg 19 [.one (.sc (.int .u32 a0))] [] (sigset_First.R t42) [] ∧ True) ∧ ((t40 == (((List.length t1) : Nat) : Int)) = true ∧ ((t40 == (((List.length t1) : Nat) : Int)) = true ∧ (True) ∧ ((t40 == (((List.length t1) : Nat) : Int)) = true ∧ (((t42 == (0 : Int)) = true → (∃ t44 : Bool, (Fun cfg 20 [] [] (halterlaw03_sure.R t44) [] ∧ True) ∧ ((t42 == (0 : Int)) = true ∧ (True ∧ ((True) ∧ ((True) ∧ True) ∧ (.v (.one (.sc (.bool t44))) : Tm) = halterlaw03_SetSteps.R r ∧ ([] : List Box) = []))))) ∧ ((t42 == (0 : Int)) = false → ((t42 == (0 : Int)) = false ∧ (True ∧ ((True) ∧ ((True) ∧ True) ∧ (.v (.one (.sc (.bool false))) : Tm) = halterlaw03_SetSteps.R r ∧ ([] : List Box) = []))))))))))) ∧ ((t40 == (((List.length t1) : Nat) : Int)) = false → ((t40 == (((List.length t1) : Nat) : Int)) = false ∧ ((t40 == (((List.length t1) : Nat) : Int)) = false ∧ ((t40 == (((List.length t1) : Nat) : Int)) = false ∧ ((t40 == (((List.length t1) : Nat) : Int)) = false ∧ (false = false ∧ (false = false ∧ (True ∧ ((True) ∧ ((True) ∧ True) ∧ (.v (.one (.sc (.bool false))) : Tm) = halterlaw03_SetSteps.R r ∧ ([] : List Box) = []))))))))))))))))) ∧ (t38 = false → (t38 = false ∧ (t38 = false ∧ (t38 = false ∧ (t38 = false ∧ (t38 = false ∧ (false = false ∧ (false = false ∧ (false = false ∧ (false = false ∧ (false = false ∧ (false = false ∧ (false = false ∧ (True ∧ ((True) ∧ ((True) ∧ True) ∧ (.v (.one (.sc (.bool false))) : Tm) = halterlaw03_SetSteps.R r ∧ ([] : List Box) = []))))))))))))))))))))))) ∧ ((t34 == t35) = false → ((t34 == t35) = false ∧ ((t34 == t35) = false ∧ ((t34 == t35) = false ∧ ((t34 == t35) = false ∧ (false = false ∧ (false = false ∧ (false = false ∧ (false = false ∧ (false = false ∧ (false = false ∧ (false = false ∧ (false = false ∧ (false = false ∧ (false = false ∧ (false = false ∧ (false = false ∧ (false = false ∧ (True ∧ ((True) ∧ ((True) ∧ True) ∧ (.v (.one (.sc (.bool false))) : Tm) = halterlaw03_SetSteps.R r ∧ ([] : List Box) = [])))))))))))))))))))))))))))))) ∧ ((t31 == t32) = false → ((t31 == t32) = false ∧ ((t31 == t32) = false ∧ ((t31 == t32) = false ∧ ((t31 == t32) = false ∧ ((t31 == t32) = false ∧ ((t31 == t32) = false ∧ (false = false ∧ (false = false ∧ (false = false ∧ (false = false ∧ (false = false ∧ (false = false ∧ (false = false ∧ (false = false ∧ (false = false ∧ (false = false ∧ (false = false ∧ (false = false ∧ (false = false ∧ (false = false ∧ (false = false ∧ (false = false ∧ (false = false ∧ (false = false ∧ (True ∧ ((True) ∧ ((True) ∧ True) ∧ (.v (.one (.sc (.bool false))) : Tm) = halterlaw03_SetSteps.R r ∧ ([] : List Box) = [])))))))))))))))))))))))))))))))))))))) ∧ ((t28 == t29) = false → ((t28 == t29) = false ∧ ((t28 == t29) = false ∧ ((t28 == t29) = false ∧ ((t28 == t29) = false ∧ ((t28 == t29) = false ∧ ((t28 == t29) = false ∧ ((t28 == t29) = false ∧ (false = false ∧ (false = false ∧ (false = false ∧ (false = false ∧ (false = false ∧ (false = false ∧ (false = false ∧ (false = false ∧ (false = false ∧ (false = false ∧ (false = false ∧ (false = false ∧ (false = false ∧ (false = false ∧ (false = false ∧ (false = false ∧ (false = false ∧ (false = false ∧ (false = false ∧ (false = false ∧ (false = false ∧ (false = false ∧ (false = false ∧ (false = false ∧ (false = false ∧ (True ∧ ((True) ∧ ((True) ∧ True) ∧ (.v (.one (.sc (.bool false))) : Tm) = halterlaw03_SetSteps.R r ∧ ([] : List Box) = [])))))))))))))))))))))))))))))))))))))))))))))) ∧ ((t25 == t26) = false → ((t25 == t26) = false ∧ ((t25 == t26) = false ∧ ((t25 == t26) = false ∧ ((t25 == t26) = false ∧ ((t25 == t26) = false ∧ ((t25 == t26) = false ∧ ((t25 == t26) = false ∧ (false = false ∧ (false = false ∧ (false = false ∧ (false = false ∧ (false = false ∧ (false = false ∧ (false = false ∧ (false = false ∧ (false = false ∧ (false = false ∧ (false = false ∧ (false = false ∧ (false = false ∧ (false = false ∧ (false = false ∧ (false = false ∧ (false = false ∧ (false = false ∧ (false = false ∧ (false = false ∧ (false = false ∧ (false = false ∧ (false = false ∧ (false = false ∧ (false = false ∧ (false = false ∧ (false = false ∧ (false = false ∧ (false = false ∧ (false = false ∧ (false = false ∧ (false = false ∧ (false = false ∧ (True ∧ ((True) ∧ ((True) ∧ True) ∧ (.v (.one (.sc (.bool false))) : Tm) = halterlaw03_SetSteps.R r ∧ ([] : List Box) = [])))))))))))))))))))))))))))))))))))))))))))))))))) (by kernel_rfl) ?_)
  obtain ⟨t1, ht1, h⟩ := of_bind h
  refine ⟨t1, ⟨halterref03_List.fun_ ht1, trivial⟩, ?_⟩
  refine ⟨trivial, ?_⟩
  refine ⟨trivial, ?_⟩
  refine ⟨fun b2 => ?_, fun b2 => ?_⟩
  · rw [if_pos (of_decide_eq_true b2)] at h
    obtain ⟨g24, h⟩ := of_guard h
    refine ⟨g24, ?_⟩
    obtain ⟨g23, h⟩ := of_guard h
    refine ⟨g23, ?_⟩
    obtain ⟨t3, ht3, h⟩ := of_bind h
    refine ⟨t3, ⟨sigset_Add.fun_ ht3, trivial⟩, ?_⟩
    obtain ⟨t4, ht4, h⟩ := of_bind h
    refine ⟨t4, ⟨halterref03_Add.fun_ ht4, trivial⟩, ?_⟩
    refine ⟨trivial, ?_⟩
    refine ⟨fun b5 => ?_, fun b5 => ?_⟩
    · rw [if_pos (beq_t b5)] at h
      refine ⟨b5, ?_⟩
      refine ⟨b5, ?_⟩
      obtain ⟨t6, ht6, h⟩ := of_bind h
      refine ⟨t6, ⟨sigset_Del.fun_ ht6, trivial⟩, ?_⟩
      refine ⟨b5, ?_⟩
      refine ⟨b5, ?_⟩
      refine ⟨b5, ?_⟩
      obtain ⟨t7, ht7, h⟩ := of_bind h
      refine ⟨t7, ⟨halterref03_Del.fun_ ht7, trivial⟩, ?_⟩
      refine ⟨b5, ?_⟩
      refine ⟨trivial, ?_⟩
      refine ⟨b5, ?_⟩
      refine ⟨fun b8 => ?_, fun b8 => ?_⟩
      · rw [if_pos (beq_t b8)] at h
        refine ⟨b8, ?_⟩
        refine ⟨b8, ?_⟩
        obtain ⟨t9, ht9, h⟩ := of_bind h
        refine ⟨t9, ⟨sigset_Has.fun_ ht9, trivial⟩, ?_⟩
        refine ⟨b8, ?_⟩
        refine ⟨b8, ?_⟩
        refine ⟨b8, ?_⟩
        obtain ⟨t10, ht10, h⟩ := of_bind h
        refine ⟨t10, ⟨halterref03_Has.fun_ ht10, trivial⟩, ?_⟩
        refine ⟨b8, ?_⟩
        refine ⟨trivial, ?_⟩
        refine ⟨b8, ?_⟩
        refine ⟨fun b11 => ?_, fun b11 => ?_⟩
        · rw [if_pos (bb_t b11)] at h
          refine ⟨b11, ?_⟩
          obtain ⟨t12, ht12, h⟩ := of_bind h
          refine ⟨t12, ⟨sigset_One.fun_ ht12, trivial⟩, ?_⟩
          refine ⟨b11, ?_⟩
          refine ⟨b11, ?_⟩
          refine ⟨b11, ?_⟩
          obtain ⟨t13, ht13, h⟩ := of_bind h
          refine ⟨t13, ⟨⟨rfl, rfl⟩, halterref03_Of.fun_ ht13, trivial⟩, ?_⟩
          refine ⟨b11, ?_⟩
          refine ⟨trivial, ?_⟩
          refine ⟨b11, ?_⟩
          refine ⟨fun b14 => ?_, fun b14 => ?_⟩
          · rw [if_pos (beq_t b14)] at h
            refine ⟨b14, ?_⟩
            obtain ⟨t15, ht15, h⟩ := of_bind h
            refine ⟨t15, ⟨sigset_List.fun_ ht15, trivial⟩, ?_⟩
            refine ⟨b14, ?_⟩
            refine ⟨b14, ?_⟩
            obtain ⟨t16, ht16, h⟩ := of_bind h
            refine ⟨t16, ⟨⟨rfl, rfl⟩, halterlaw03_ints.fun_ ht16, trivial⟩, ?_⟩
            refine ⟨b14, ?_⟩
            refine ⟨fun b17 => ?_, fun b17 => ?_⟩
            · rw [if_pos b17] at h
              refine ⟨b17, ?_⟩
              obtain ⟨t18, ht18, h⟩ := of_bind h
              refine ⟨t18, ⟨sigset_Count.fun_ ht18, trivial⟩, ?_⟩
              refine ⟨b17, ?_⟩
              refine ⟨b17, ?_⟩
              refine ⟨trivial, ?_⟩
              refine ⟨b17, ?_⟩
              refine ⟨trivial, ?_⟩
              refine ⟨b17, ?_⟩
              refine ⟨fun b19 => ?_, fun b19 => ?_⟩
              · rw [if_pos (beq_t b19)] at h
                refine ⟨b19, ?_⟩
                obtain ⟨t20, ht20, h⟩ := of_bind h
                refine ⟨t20, ⟨sigset_First.fun_ ht20, trivial⟩, ?_⟩
                refine ⟨b19, ?_⟩
                refine ⟨b19, ?_⟩
                refine ⟨trivial, ?_⟩
                refine ⟨b19, ?_⟩
                refine ⟨fun b21 => ?_, fun b21 => ?_⟩
                · rw [if_pos (beq_t b21)] at h
                  obtain ⟨t22, ht22, h⟩ := of_bind h
                  refine ⟨t22, ⟨halterlaw03_sure.fun_ ht22, trivial⟩, ?_⟩
                  refine ⟨b21, ?_⟩
                  refine ⟨trivial, ?_⟩
                  obtain rfl := Option.some.inj h
                  exact ⟨trivial, ⟨trivial, trivial⟩, rfl, rfl⟩
                · rw [if_neg (beq_f b21)] at h
                  refine ⟨b21, ?_⟩
                  refine ⟨trivial, ?_⟩
                  obtain rfl := Option.some.inj h
                  exact ⟨trivial, ⟨trivial, trivial⟩, rfl, rfl⟩
              · rw [if_neg (beq_f b19)] at h
                refine ⟨b19, ?_⟩
                refine ⟨b19, ?_⟩
                refine ⟨b19, ?_⟩
                refine ⟨b19, ?_⟩
                refine ⟨rfl, ?_⟩
                refine ⟨rfl, ?_⟩
                refine ⟨trivial, ?_⟩
                obtain rfl := Option.some.inj h
                exact ⟨trivial, ⟨trivial, trivial⟩, rfl, rfl⟩
            · rw [if_neg (ff b17)] at h
              refine ⟨b17, ?_⟩
              refine ⟨b17, ?_⟩
              refine ⟨b17, ?_⟩
              refine ⟨b17, ?_⟩
              refine ⟨b17, ?_⟩
              refine ⟨rfl, ?_⟩
              refine ⟨rfl, ?_⟩
              refine ⟨rfl, ?_⟩
              refine ⟨rfl, ?_⟩
              refine ⟨rfl, ?_⟩
              refine ⟨rfl, ?_⟩
              refine ⟨rfl, ?_⟩
              refine ⟨trivial, ?_⟩
              obtain rfl := Option.some.inj h
              exact ⟨trivial, ⟨trivial, trivial⟩, rfl, rfl⟩
          · rw [if_neg (beq_f b14)] at h
            refine ⟨b14, ?_⟩
            refine ⟨b14, ?_⟩
            refine ⟨b14, ?_⟩
            refine ⟨b14, ?_⟩
            refine ⟨rfl, ?_⟩
            refine ⟨rfl, ?_⟩
            refine ⟨rfl, ?_⟩
            refine ⟨rfl, ?_⟩
            refine ⟨rfl, ?_⟩
            refine ⟨rfl, ?_⟩
            refine ⟨rfl, ?_⟩
            refine ⟨rfl, ?_⟩
            refine ⟨rfl, ?_⟩
            refine ⟨rfl, ?_⟩
            refine ⟨rfl, ?_⟩
            refine ⟨rfl, ?_⟩
            refine ⟨rfl, ?_⟩
            refine ⟨trivial, ?_⟩
            obtain rfl := Option.some.inj h
            exact ⟨trivial, ⟨trivial, trivial⟩, rfl, rfl⟩
        · rw [if_neg (bb_f b11)] at h
          refine ⟨b11, ?_⟩
          refine ⟨b11, ?_⟩
          refine ⟨b11, ?_⟩
          refine ⟨b11, ?_⟩
          refine ⟨b11, ?_⟩
          refine ⟨b11, ?_⟩
          refine ⟨rfl, ?_⟩
          refine ⟨rfl, ?_⟩
          refine ⟨rfl, ?_⟩
          refine ⟨rfl, ?_⟩
          refine ⟨rfl, ?_⟩
          refine ⟨rfl, ?_⟩
          refine ⟨rfl, ?_⟩
          refine ⟨rfl, ?_⟩
          refine ⟨rfl, ?_⟩
          refine ⟨rfl, ?_⟩
          refine ⟨rfl, ?_⟩
          refine ⟨rfl, ?_⟩
          refine ⟨rfl, ?_⟩
          refine ⟨rfl, ?_⟩
          refine ⟨rfl, ?_⟩
          refine ⟨rfl, ?_⟩
          refine ⟨rfl, ?_⟩
          refine ⟨rfl, ?_⟩
          refine ⟨trivial, ?_⟩
          obtain rfl := Option.some.inj h
          exact ⟨trivial, ⟨trivial, trivial⟩, rfl, rfl⟩
      · rw [if_neg (beq_f b8)] at h
        refine ⟨b8, ?_⟩
        refine ⟨b8, ?_⟩
        refine ⟨b8, ?_⟩
        refine ⟨b8, ?_⟩
        refine ⟨b8, ?_⟩
        refine ⟨b8, ?_⟩
        refine ⟨b8, ?_⟩
        refine ⟨rfl, ?_⟩
        refine ⟨rfl, ?_⟩
        refine ⟨rfl, ?_⟩
        refine ⟨rfl, ?_⟩
        refine ⟨rfl, ?_⟩
        refine ⟨rfl, ?_⟩
        refine ⟨rfl, ?_⟩
        refine ⟨rfl, ?_⟩
        refine ⟨rfl, ?_⟩
        refine ⟨rfl, ?_⟩
        refine ⟨rfl, ?_⟩
        refine ⟨rfl, ?_⟩
        refine ⟨rfl, ?_⟩
        refine ⟨rfl, ?_⟩
        refine ⟨rfl, ?_⟩
        refine ⟨rfl, ?_⟩
        refine ⟨rfl, ?_⟩
        refine ⟨rfl, ?_⟩
        refine ⟨rfl, ?_⟩
        refine ⟨rfl, ?_⟩
        refine ⟨rfl, ?_⟩
        refine ⟨rfl, ?_⟩
        refine ⟨rfl, ?_⟩
        refine ⟨rfl, ?_⟩
        refine ⟨rfl, ?_⟩
        refine ⟨trivial, ?_⟩
        obtain rfl := Option.some.inj h
        exact ⟨trivial, ⟨trivial, trivial⟩, rfl, rfl⟩
    · rw [if_neg (beq_f b5)] at h
      refine ⟨b5, ?_⟩
      refine ⟨b5, ?_⟩
      refine ⟨b5, ?_⟩
      refine ⟨b5, ?_⟩
      refine ⟨b5, ?_⟩
      refine ⟨b5, ?_⟩
      refine ⟨b5, ?_⟩
      refine ⟨rfl, ?_⟩
      refine ⟨rfl, ?_⟩
      refine ⟨rfl, ?_⟩
      refine ⟨rfl, ?_⟩
      refine ⟨rfl, ?_⟩
      refine ⟨rfl, ?_⟩
      refine ⟨rfl, ?_⟩
      refine ⟨rfl, ?_⟩
      refine ⟨rfl, ?_⟩
      refine ⟨rfl, ?_⟩
      refine ⟨rfl, ?_⟩
      refine ⟨rfl, ?_⟩
      refine ⟨rfl, ?_⟩
      refine ⟨rfl, ?_⟩
      refine ⟨rfl, ?_⟩
      refine ⟨rfl, ?_⟩
      refine ⟨rfl, ?_⟩
      refine ⟨rfl, ?_⟩
      refine ⟨rfl, ?_⟩
      refine ⟨rfl, ?_⟩
      refine ⟨rfl, ?_⟩
      refine ⟨rfl, ?_⟩
      refine ⟨rfl, ?_⟩
      refine ⟨rfl, ?_⟩
      refine ⟨rfl, ?_⟩
      refine ⟨rfl, ?_⟩
      refine ⟨rfl, ?_⟩
      refine ⟨rfl, ?_⟩
      refine ⟨rfl, ?_⟩
      refine ⟨rfl, ?_⟩
      refine ⟨rfl, ?_⟩
      refine ⟨rfl, ?_⟩
      refine ⟨rfl, ?_⟩
      refine ⟨trivial, ?_⟩
      obtain rfl := Option.some.inj h
      exact ⟨trivial, ⟨trivial, trivial⟩, rfl, rfl⟩
  · rw [if_neg (of_decide_eq_false b2)] at h
    obtain ⟨t25, ht25, h⟩ := of_bind h
    refine ⟨t25, ⟨sigset_Add.fun_ ht25, trivial⟩, ?_⟩
    obtain ⟨t26, ht26, h⟩ := of_bind h
    refine ⟨t26, ⟨halterref03_Add.fun_ ht26, trivial⟩, ?_⟩
    refine ⟨trivial, ?_⟩
    refine ⟨fun b27 => ?_, fun b27 => ?_⟩
    · rw [if_pos (beq_t b27)] at h
      refine ⟨b27, ?_⟩
      refine ⟨b27, ?_⟩
      obtain ⟨t28, ht28, h⟩ := of_bind h
      refine ⟨t28, ⟨sigset_Del.fun_ ht28, trivial⟩, ?_⟩
      refine ⟨b27, ?_⟩
      refine ⟨b27, ?_⟩
      refine ⟨b27, ?_⟩
      obtain ⟨t29, ht29, h⟩ := of_bind h
      refine ⟨t29, ⟨halterref03_Del.fun_ ht29, trivial⟩, ?_⟩
      refine ⟨b27, ?_⟩
      refine ⟨trivial, ?_⟩
      refine ⟨b27, ?_⟩
      refine ⟨fun b30 => ?_, fun b30 => ?_⟩
      · rw [if_pos (beq_t b30)] at h
        refine ⟨b30, ?_⟩
        refine ⟨b30, ?_⟩
        obtain ⟨t31, ht31, h⟩ := of_bind h
        refine ⟨t31, ⟨sigset_Has.fun_ ht31, trivial⟩, ?_⟩
        refine ⟨b30, ?_⟩
        refine ⟨b30, ?_⟩
        refine ⟨b30, ?_⟩
        obtain ⟨t32, ht32, h⟩ := of_bind h
        refine ⟨t32, ⟨halterref03_Has.fun_ ht32, trivial⟩, ?_⟩
        refine ⟨b30, ?_⟩
        refine ⟨trivial, ?_⟩
        refine ⟨b30, ?_⟩
        refine ⟨fun b33 => ?_, fun b33 => ?_⟩
        · rw [if_pos (bb_t b33)] at h
          refine ⟨b33, ?_⟩
          obtain ⟨t34, ht34, h⟩ := of_bind h
          refine ⟨t34, ⟨sigset_One.fun_ ht34, trivial⟩, ?_⟩
          refine ⟨b33, ?_⟩
          refine ⟨b33, ?_⟩
          refine ⟨b33, ?_⟩
          obtain ⟨t35, ht35, h⟩ := of_bind h
          refine ⟨t35, ⟨⟨rfl, rfl⟩, halterref03_Of.fun_ ht35, trivial⟩, ?_⟩
          refine ⟨b33, ?_⟩
          refine ⟨trivial, ?_⟩
          refine ⟨b33, ?_⟩
          refine ⟨fun b36 => ?_, fun b36 => ?_⟩
          · rw [if_pos (beq_t b36)] at h
            refine ⟨b36, ?_⟩
            obtain ⟨t37, ht37, h⟩ := of_bind h
            refine ⟨t37, ⟨sigset_List.fun_ ht37, trivial⟩, ?_⟩
            refine ⟨b36, ?_⟩
            refine ⟨b36, ?_⟩
            obtain ⟨t38, ht38, h⟩ := of_bind h
            refine ⟨t38, ⟨⟨rfl, rfl⟩, halterlaw03_ints.fun_ ht38, trivial⟩, ?_⟩
            refine ⟨b36, ?_⟩
            refine ⟨fun b39 => ?_, fun b39 => ?_⟩
            · rw [if_pos b39] at h
              refine ⟨b39, ?_⟩
              obtain ⟨t40, ht40, h⟩ := of_bind h
              refine ⟨t40, ⟨sigset_Count.fun_ ht40, trivial⟩, ?_⟩
              refine ⟨b39, ?_⟩
              refine ⟨b39, ?_⟩
              refine ⟨trivial, ?_⟩
              refine ⟨b39, ?_⟩
              refine ⟨trivial, ?_⟩
              refine ⟨b39, ?_⟩
              refine ⟨fun b41 => ?_, fun b41 => ?_⟩
              · rw [if_pos (beq_t b41)] at h
                refine ⟨b41, ?_⟩
                obtain ⟨t42, ht42, h⟩ := of_bind h
                refine ⟨t42, ⟨sigset_First.fun_ ht42, trivial⟩, ?_⟩
                refine ⟨b41, ?_⟩
                refine ⟨b41, ?_⟩
                refine ⟨trivial, ?_⟩
                refine ⟨b41, ?_⟩
                refine ⟨fun b43 => ?_, fun b43 => ?_⟩
                · rw [if_pos (beq_t b43)] at h
                  obtain ⟨t44, ht44, h⟩ := of_bind h
                  refine ⟨t44, ⟨halterlaw03_sure.fun_ ht44, trivial⟩, ?_⟩
                  refine ⟨b43, ?_⟩
                  refine ⟨trivial, ?_⟩
                  obtain rfl := Option.some.inj h
                  exact ⟨trivial, ⟨trivial, trivial⟩, rfl, rfl⟩
                · rw [if_neg (beq_f b43)] at h
                  refine ⟨b43, ?_⟩
                  refine ⟨trivial, ?_⟩
                  obtain rfl := Option.some.inj h
                  exact ⟨trivial, ⟨trivial, trivial⟩, rfl, rfl⟩
              · rw [if_neg (beq_f b41)] at h
                refine ⟨b41, ?_⟩
                refine ⟨b41, ?_⟩
                refine ⟨b41, ?_⟩
                refine ⟨b41, ?_⟩
                refine ⟨rfl, ?_⟩
                refine ⟨rfl, ?_⟩
                refine ⟨trivial, ?_⟩
                obtain rfl := Option.some.inj h
                exact ⟨trivial, ⟨trivial, trivial⟩, rfl, rfl⟩
            · rw [if_neg (ff b39)] at h
              refine ⟨b39, ?_⟩
              refine ⟨b39, ?_⟩
              refine ⟨b39, ?_⟩
              refine ⟨b39, ?_⟩
              refine ⟨b39, ?_⟩
              refine ⟨rfl, ?_⟩
              refine ⟨rfl, ?_⟩
              refine ⟨rfl, ?_⟩
              refine ⟨rfl, ?_⟩
              refine ⟨rfl, ?_⟩
              refine ⟨rfl, ?_⟩
              refine ⟨rfl, ?_⟩
              refine ⟨trivial, ?_⟩
              obtain rfl := Option.some.inj h
              exact ⟨trivial, ⟨trivial, trivial⟩, rfl, rfl⟩
          · rw [if_neg (beq_f b36)] at h
            refine ⟨b36, ?_⟩
            refine ⟨b36, ?_⟩
            refine ⟨b36, ?_⟩
            refine ⟨b36, ?_⟩
            refine ⟨rfl, ?_⟩
            refine ⟨rfl, ?_⟩
            refine ⟨rfl, ?_⟩
            refine ⟨rfl, ?_⟩
            refine ⟨rfl, ?_⟩
            refine ⟨rfl, ?_⟩
            refine ⟨rfl, ?_⟩
            refine ⟨rfl, ?_⟩
            refine ⟨rfl, ?_⟩
            refine ⟨rfl, ?_⟩
            refine ⟨rfl, ?_⟩
            refine ⟨rfl, ?_⟩
            refine ⟨rfl, ?_⟩
            refine ⟨trivial, ?_⟩
            obtain rfl := Option.some.inj h
            exact ⟨trivial, ⟨trivial, trivial⟩, rfl, rfl⟩
        · rw [if_neg (bb_f b33)] at h
          refine ⟨b33, ?_⟩
          refine ⟨b33, ?_⟩
          refine ⟨b33, ?_⟩
          refine ⟨b33, ?_⟩
          refine ⟨b33, ?_⟩
          refine ⟨b33, ?_⟩
          refine ⟨rfl, ?_⟩
          refine ⟨rfl, ?_⟩
          refine ⟨rfl, ?_⟩
          refine ⟨rfl, ?_⟩
          refine ⟨rfl, ?_⟩
          refine ⟨rfl, ?_⟩
          refine ⟨rfl, ?_⟩
          refine ⟨rfl, ?_⟩
          refine ⟨rfl, ?_⟩
          refine ⟨rfl, ?_⟩
          refine ⟨rfl, ?_⟩
          refine ⟨rfl, ?_⟩
          refine ⟨rfl, ?_⟩
          refine ⟨rfl, ?_⟩
          refine ⟨rfl, ?_⟩
          refine ⟨rfl, ?_⟩
          refine ⟨rfl, ?_⟩
          refine ⟨rfl, ?_⟩
          refine ⟨trivial, ?_⟩
          obtain rfl := Option.some.inj h
          exact ⟨trivial, ⟨trivial, trivial⟩, rfl, rfl⟩
      · rw [if_neg (beq_f b30)] at h
        refine ⟨b30, ?_⟩
        refine ⟨b30, ?_⟩
        refine ⟨b30, ?_⟩
        refine ⟨b30, ?_⟩
        refine ⟨b30, ?_⟩
        refine ⟨b30, ?_⟩
        refine ⟨b30, ?_⟩
        refine ⟨rfl, ?_⟩
        refine ⟨rfl, ?_⟩
        refine ⟨rfl, ?_⟩
        refine ⟨rfl, ?_⟩
        refine ⟨rfl, ?_⟩
        refine ⟨rfl, ?_⟩
        refine ⟨rfl, ?_⟩
        refine ⟨rfl, ?_⟩
        refine ⟨rfl, ?_⟩
        refine ⟨rfl, ?_⟩
        refine ⟨rfl, ?_⟩
        refine ⟨rfl, ?_⟩
        refine ⟨rfl, ?_⟩
        refine ⟨rfl, ?_⟩
        refine ⟨rfl, ?_⟩
        refine ⟨rfl, ?_⟩
        refine ⟨rfl, ?_⟩
        refine ⟨rfl, ?_⟩
        refine ⟨rfl, ?_⟩
        refine ⟨rfl, ?_⟩
        refine ⟨rfl, ?_⟩
        refine ⟨rfl, ?_⟩
        refine ⟨rfl, ?_⟩
        refine ⟨rfl, ?_⟩
        refine ⟨rfl, ?_⟩
        refine ⟨trivial, ?_⟩
        obtain rfl := Option.some.inj h
        exact ⟨trivial, ⟨trivial, trivial⟩, rfl, rfl⟩
    · rw [if_neg (beq_f b27)] at h
      refine ⟨b27, ?_⟩
      refine ⟨b27, ?_⟩
      refine ⟨b27, ?_⟩
      refine ⟨b27, ?_⟩
      refine ⟨b27, ?_⟩
      refine ⟨b27, ?_⟩
      refine ⟨b27, ?_⟩
      refine ⟨rfl, ?_⟩
      refine ⟨rfl, ?_⟩
      refine ⟨rfl, ?_⟩
      refine ⟨rfl, ?_⟩
      refine ⟨rfl, ?_⟩
      refine ⟨rfl, ?_⟩
      refine ⟨rfl, ?_⟩
      refine ⟨rfl, ?_⟩
      refine ⟨rfl, ?_⟩
      refine ⟨rfl, ?_⟩
      refine ⟨rfl, ?_⟩
      refine ⟨rfl, ?_⟩
      refine ⟨rfl, ?_⟩
      refine ⟨rfl, ?_⟩
      refine ⟨rfl, ?_⟩
      refine ⟨rfl, ?_⟩
      refine ⟨rfl, ?_⟩
      refine ⟨rfl, ?_⟩
      refine ⟨rfl, ?_⟩
      refine ⟨rfl, ?_⟩
      refine ⟨rfl, ?_⟩
      refine ⟨rfl, ?_⟩
      refine ⟨rfl, ?_⟩
      refine ⟨rfl, ?_⟩
      refine ⟨rfl, ?_⟩
      refine ⟨rfl, ?_⟩
      refine ⟨rfl, ?_⟩
      refine ⟨rfl, ?_⟩
      refine ⟨rfl, ?_⟩
      refine ⟨rfl, ?_⟩
      refine ⟨rfl, ?_⟩
      refine ⟨rfl, ?_⟩
      refine ⟨rfl, ?_⟩
      refine ⟨trivial, ?_⟩
      obtain rfl := Option.some.inj h
      exact ⟨trivial, ⟨trivial, trivial⟩, rfl, rfl⟩
end Go.Proofs.YtndjiebeihcbgaaDoorGSetSteps
