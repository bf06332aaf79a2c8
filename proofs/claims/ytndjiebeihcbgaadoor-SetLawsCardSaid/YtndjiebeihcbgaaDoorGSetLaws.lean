/- Printed by gen.py: the next part. -/
import Derived.Test.YtndjiebeihcbgaaDoorGSetLawsp0
set_option linter.unusedVariables false
set_option maxRecDepth 100000
set_option maxHeartbeats 4000000
namespace Go.Proofs.YtndjiebeihcbgaaDoorGSetLaws
open Go Go.Proofs.YtndjiebeihcbgaaDoorE
theorem halterlaw03_SetLaws.fun_ {a0 : Int} {a1 : Int} {a2 : Int} {r : Bool} (h : halterlaw03_SetLaws.f a0 a1 a2 = some r) : Fun cfg 4 [.one (.sc (.int .u32 a0)), .one (.sc (.int .i64 a1)), .one (.sc (.int .i64 a2))] [] (halterlaw03_SetLaws.R r) [] := by
  unfold halterlaw03_SetLaws.f at h
  refine fun_of_run cfg_ok (f := 4) (fn := Tryd.f4) Tryd.func4 rfl (by kernel_rfl) (rs := [.tmp 6]) rfl (nt := 122) rfl (l := fin) (k := (.call true [] (Int) (fun t1 => sigset_Add.R t1) (fun t1 => (.call true [] (Int) (fun t2 => sigset_Del.R t2) (fun t2 => (.call true [] (Bool) (fun t3 => sigset_Has.R t3) (fun t3 => (.br (.one true (.one true (.one true (.one true (.one true (.one true (.one true (.one true (.one true (.one true (.adj [] (.adj [] (.adj [] .nil))))))))))))) (.one false (.one false (.call true [] (Bool) (fun t5 => sigset_Has.R t5) (fun t5 => (.one false (.br (.one true (.one true (.one true (.one true (.one true (.one true (.adj [] (.adj [] (.adj [] .nil))))))))) (.one false (.one false (.one false (.br (.one true (.one true (.call true [] (Bool) (fun t8 => sigset_Has.R t8) (fun t8 => (.one true (.one true (.one true (.call true [] (Bool) (fun t9 => sigset_Has.R t9) (fun t9 => (.one true (.one true (.br (.one true (.one true (.one true (.one true (.one true (.one true (.one true (.one true (.one false (.one true (.one false (.one true (.adj [] (.adj [] (.adj [] .nil))))))))))))))) (.one false (.one false (.call true [] (Bool) (fun t11 => sigset_Has.R t11) (fun t11 => (.one false (.one false (.one false (.call true [] (Bool) (fun t12 => sigset_Has.R t12) (fun t12 => (.one false (.one true (.one false (.one false (.one true (.one false (.br (.adj [] (.adj [] (.adj [] .nil))) (.call true [] (ByteArray) (fun t14 => sigset_Text.R t14) (fun t14 => (.call true [] (Int × (Option Int)) (fun t15 => sigset_Parse.R t15) (fun t15 => (.br (.one true (.one true (.one true (.one true (.one true (.one true (.one true (.one true (.one true (.one true (.one true (.adj [] (.adj [] (.adj [] .nil)))))))))))))) (.one false (.one false (.one false (.br (.one true (.one true (.one true (.one true (.one true (.one true (.one true (.adj [] (.adj [] (.adj [] .nil)))))))))) (.one false (.call true [] (Int) (fun t18 => sigset_Count.R t18) (fun t18 => (.one false (.one false (.call true [] (Int) (fun t19 => sigset_Count.R t19) (fun t19 => (.one false (.one false (.one false (.br (.adj [] (.adj [] (.adj [] .nil))) (.call true [] ((List Int)) (fun t21 => sigset_List.R t21) (fun t21 => (.adj [] (.adj [] (.adj [.keep [7, 14, 15, 16]] (.alt (.sub (Int) (fun _ => (.exit 0)) (fun t64 => ⟨[.any, .any, .any, .any, .any, .any, .any, .v (.one (.sc (.int .u32 (Int.tmod a0 (2147483648 : Int))))), .any, .any, .any, .any, .any, .any, .v (.one (.sc (.int .u32 t64))), .any, .any, .any, .any, .any, .any, .any, .any, .any, .any, .any, .any, .any, .any, .any, .any, .any, .any, .any, .any, .any, .any, .any, .any, .any, .any, .any, .any, .any, .any, .any, .any, .any, .any, .any, .any, .any, .any, .any, .any, .any, .any, .any, .any, .any, .any, .any, .any, .any, .any, .any, .any, .any, .any, .any, .any, .any, .any, .any, .any, .any, .any, .any, .any, .any, .any, .any, .any, .any, .any, .any, .any, .any, .any, .any, .any, .any, .any, .any, .any, .any, .any, .any, .any, .any, .any, .any, .any, .any, .any, .any, .any, .any, .any, .any, .any, .any, .any, .any, .any, .any, .any, .any, .any, .any, .any, .any], [], 0⟩) (fun t64 => (.br (.call true [] (Bool) (fun t67 => halterlaw03_sure.R t67) (fun t67 => (.one true (.adj [] (.adj [] .nil))))) (.one false (.adj [] (.adj [] .nil)))))) (.sub (Unit) (fun _ => .ret) (fun t68 => ⟨[.any, .any, .any, .any, .any, .any, .v (.one (.sc (.bool false))), .any, .any, .any, .any, .any, .any, .any, .any, .any, .any, .any, .any, .any, .any, .any, .any, .any, .any, .any, .any, .any, .any, .any, .any, .any, .any, .any, .any, .any, .any, .any, .any, .any, .any, .any, .any, .any, .any, .any, .any, .any, .any, .any, .any, .any, .any, .any, .any, .any, .any, .any, .any, .any, .any, .any, .any, .any, .any, .any, .any, .any, .any, .any, .any, .any, .any, .any, .any, .any, .any, .any, .any, .any, .any, .any, .any, .any, .any, .any, .any, .any, .any, .any, .any, .any, .any, .any, .any, .any, .any, .any, .any, .any, .any, .any, .any, .any, .any, .any, .any, .any, .any, .any, .any, .any, .any, .any, .any, .any, .any, .any, .any, .any, .any, .any], [], 0⟩) (fun t68 => (.adj [] .nil))))))))))))))))))))))))))))))))))))))))))))))))))))))))) (.one false (.one false (.one false (.one false (.one false (.one false (.one false (.one false (.one false (.one false (.one false (.one false (.call true [] (ByteArray) (fun t69 => sigset_Text.R t69) (fun t69 => (.call true [] (Int × (Option Int)) (fun t70 => sigset_Parse.R t70) (fun t70 => (.br (.one true (.one true (.one true (.one true (.one true (.one true (.one true (.one true (.one true (.one true (.one true (.adj [] (.adj [] (.adj [] .nil)))))))))))))) (.one false (.one false (.one false (.br (.one true (.one true (.one true (.one true (.one true (.one true (.one true (.adj [] (.adj [] (.adj [] .nil)))))))))) (.one false (.call true [] (Int) (fun t73 => sigset_Count.R t73) (fun t73 => (.one false (.one false (.call true [] (Int) (fun t74 => sigset_Count.R t74) (fun t74 => (.one false (.one false (.one false (.br (.adj [] (.adj [] (.adj [] .nil))) (.call true [] ((List Int)) (fun t76 => sigset_List.R t76) (fun t76 => (.adj [] (.adj [] (.adj [.keep [7, 14, 15, 16]] (.alt (.sub (Int) (fun _ => (.exit 0)) (fun t119 => ⟨[.any, .any, .any, .any, .any, .any, .any, .v (.one (.sc (.int .u32 (Int.tmod a0 (2147483648 : Int))))), .any, .any, .any, .any, .any, .any, .v (.one (.sc (.int .u32 t119))), .any, .any, .any, .any, .any, .any, .any, .any, .any, .any, .any, .any, .any, .any, .any, .any, .any, .any, .any, .any, .any, .any, .any, .any, .any, .any, .any, .any, .any, .any, .any, .any, .any, .any, .any, .any, .any, .any, .any, .any, .any, .any, .any, .any, .any, .any, .any, .any, .any, .any, .any, .any, .any, .any, .any, .any, .any, .any, .any, .any, .any, .any, .any, .any, .any, .any, .any, .any, .any, .any, .any, .any, .any, .any, .any, .any, .any, .any, .any, .any, .any, .any, .any, .any, .any, .any, .any, .any, .any, .any, .any, .any, .any, .any, .any, .any, .any, .any, .any, .any, .any, .any, .any, .any, .any, .any, .any], [], 0⟩) (fun t119 => (.br (.call true [] (Bool) (fun t122 => halterlaw03_sure.R t122) (fun t122 => (.one true (.adj [] (.adj [] .nil))))) (.one false (.adj [] (.adj [] .nil)))))) (.sub (Unit) (fun _ => .ret) (fun t123 => ⟨[.any, .any, .any, .any, .any, .any, .v (.one (.sc (.bool false))), .any, .any, .any, .any, .any, .any, .any, .any, .any, .any, .any, .any, .any, .any, .any, .any, .any, .any, .any, .any, .any, .any, .any, .any, .any, .any, .any, .any, .any, .any, .any, .any, .any, .any, .any, .any, .any, .any, .any, .any, .any, .any, .any, .any, .any, .any, .any, .any, .any, .any, .any, .any, .any, .any, .any, .any, .any, .any, .any, .any, .any, .any, .any, .any, .any, .any, .any, .any, .any, .any, .any, .any, .any, .any, .any, .any, .any, .any, .any, .any, .any, .any, .any, .any, .any, .any, .any, .any, .any, .any, .any, .any, .any, .any, .any, .any, .any, .any, .any, .any, .any, .any, .any, .any, .any, .any, .any, .any, .any, .any, .any, .any, .any, .any, .any], [], 0⟩) (fun t123 => (.adj [] .nil))))))))))))))))))))))))))))))))))))))))))))))))))))))))))) (to_goal (q := ((2147483648 : Int) ≠ 0) ∧ (True) ∧ ((31 : Int) ≠ 0) ∧ (True) ∧ (True) ∧ (True) ∧ ((31 : Int) ≠ 0) ∧ (True) ∧ (True) ∧ (∃ t1 : Int, (Fun cfg 8 [.one (.sc (.int .u32 (Int.tmod a0 (2147483648 : Int)))), .one (.sc (.int .i64 (IntKind.wrap .i64 ((1 : Int) + (IntKind.wrap .i64 ((Int.tmod (IntKind.wrap .u64 (a1)) (31 : Int))))))))] [] (sigset_Add.R t1) [] ∧ True) ∧ (∃ t2 : Int, (Fun cfg 10 [.one (.sc (.int .u32 (Int.tmod a0 (2147483648 : Int)))), .one (.sc (.int .i64 (IntKind.wrap .i64 ((1 : Int) + (IntKind.wrap .i64 ((Int.tmod (IntKind.wrap .u64 (a1)) (31 : Int))))))))] [] (sigset_Del.R t2) [] ∧ True) ∧ (∃ t3 : Bool, (Fun cfg 12 [.one (.sc (.int .u32 t1)), .one (.sc (.int .i64 (IntKind.wrap .i64 ((1 : Int) + (IntKind.wrap .i64 ((Int.tmod (IntKind.wrap .u64 (a1)) (31 : Int))))))))] [] (sigset_Has.R t3) [] ∧ True) ∧ (((!t3) = false → ((!t3) = false ∧ ((!t3) = false ∧ (∃ t5 : Bool, (Fun cfg 12 [.one (.sc (.int .u32 t2)), .one (.sc (.int .i64 (IntKind.wrap .i64 ((1 : Int) + (IntKind.wrap .i64 ((Int.tmod (IntKind.wrap .u64 (a1)) (31 : Int))))))))] [] (sigset_Has.R t5) [] ∧ True) ∧ ((!t3) = false ∧ ((t5 = false → (t5 = false ∧ (t5 = false ∧ (True) ∧ (t5 = false ∧ (((halterlaw03_SetLaws.c0 a2 a1) = true → ((halterlaw03_SetLaws.c0 a2 a1) = true ∧ ((halterlaw03_SetLaws.c0 a2 a1) = true ∧ (∃ t8 : Bool, (Fun cfg 12 [.one (.sc (.int .u32 t1)), .one (.sc (.int .i64 (IntKind.wrap .i64 ((1 : Int) + (IntKind.wrap .i64 ((Int.tmod (IntKind.wrap .u64 (a2)) (31 : Int))))))))] [] (sigset_Has.R t8) [] ∧ True) ∧ ((halterlaw03_SetLaws.c0 a2 a1) = true ∧ ((halterlaw03_SetLaws.c0 a2 a1) = true ∧ ((halterlaw03_SetLaws.c0 a2 a1) = true ∧ (∃ t9 : Bool, (Fun cfg 12 [.one (.sc (.int .u32 (Int.tmod a0 (2147483648 : Int)))), .one (.sc (.int .i64 (IntKind.wrap .i64 ((1 : Int) + (IntKind.wrap .i64 ((Int.tmod (IntKind.wrap .u64 (a2)) (31 : Int))))))))] [] (sigset_Has.R t9) [] ∧ True) ∧ ((halterlaw03_SetLaws.c0 a2 a1) = true ∧ (True) ∧ ((halterlaw03_SetLaws.c0 a2 a1) = true ∧ (((!(t8 == t9)) = false → ((!(t8 == t9)) = false ∧ ((!(t8 == t9)) = false ∧ (∃ t11 : Bool, (Fun cfg 12 [.one (.sc (.int .u32 t2)), .one (.sc (.int .i64 (IntKind.wrap .i64 ((1 : Int) + (IntKind.wrap .i64 ((Int.tmod (IntKind.wrap .u64 (a2)) (31 : Int))))))))] [] (sigset_Has.R t11) [] ∧ True) ∧ ((!(t8 == t9)) = false ∧ ((!(t8 == t9)) = false ∧ ((!(t8 == t9)) = false ∧ (∃ t12 : Bool, (Fun cfg 12 [.one (.sc (.int .u32 (Int.tmod a0 (2147483648 : Int)))), .one (.sc (.int .i64 (IntKind.wrap .i64 ((1 : Int) + (IntKind.wrap .i64 ((Int.tmod (IntKind.wrap .u64 (a2)) (31 : Int))))))))] [] (sigset_Has.R t12) [] ∧ True) ∧ ((!(t8 == t9)) = false ∧ (True) ∧ ((halterlaw03_SetLaws.c0 a2 a1) = true ∧ ((!(t8 == t9)) = false ∧ (t5 = false ∧ ((halterlaw03_SetLaws.c0 a2 a1) = true ∧ (t5 = false ∧ (((!(t11 == t12)) = true → (True ∧ (True ∧ ((True) ∧ (True) ∧ (.v (.one (.sc (.bool false))) : Tm) = halterlaw03_SetLaws.R r ∧ ([] : List Box) = [])))) ∧ ((!(t11 == t12)) = false → (∃ t14 : ByteArray, (Fun cfg 22 [.one (.sc (.int .u32 (Int.tmod a0 (2147483648 : Int))))] [] (sigset_Text.R t14) [] ∧ True) ∧ (∃ t15 : Int × (Option Int), (Fun cfg 21 [.one (.sc (.string t14))] [] (sigset_Parse.R t15) [] ∧ True) ∧ (True) ∧ (((!(Option.isNone t15.2)) = false → ((!(Option.isNone t15.2)) = false ∧ ((!(Option.isNone t15.2)) = false ∧ (True) ∧ ((!(Option.isNone t15.2)) = false ∧ (((t15.1 != (Int.tmod a0 (2147483648 : Int))) = false → ((t15.1 != (Int.tmod a0 (2147483648 : Int))) = false ∧ (∃ t18 : Int, (Fun cfg 18 [.one (.sc (.int .u32 t1))] [] (sigset_Count.R t18) [] ∧ True) ∧ ((t15.1 != (Int.tmod a0 (2147483648 : Int))) = false ∧ ((t15.1 != (Int.tmod a0 (2147483648 : Int))) = false ∧ (∃ t19 : Int, (Fun cfg 18 [.one (.sc (.int .u32 t2))] [] (sigset_Count.R t19) [] ∧ True) ∧ ((t15.1 != (Int.tmod a0 (2147483648 : Int))) = false ∧ (True) ∧ ((t15.1 != (Int.tmod a0 (2147483648 : Int))) = false ∧ (True) ∧ ((t15.1 != (Int.tmod a0 (2147483648 : Int))) = false ∧ (((t18 != (IntKind.wrap .i64 (t19 + (1 : Int)))) = true → (True ∧ (True ∧ ((True) ∧ (True) ∧ (.v (.one (.sc (.bool false))) : Tm) = halterlaw03_SetLaws.R r ∧ ([] : List Box) = [])))) ∧ ((t18 != (IntKind.wrap .i64 (t19 + (1 : Int)))) = false → (∃ t21 : (List Int), (Fun cfg 17 [.one (.sc (.int .u32 (Int.tmod a0 (2147483648 : Int))))] [] (sigset_List.R t21) [] ∧ True) ∧ (True ∧ (True ∧ (((True) ∧ True) ∧ ((∃ t64 : Int, Trip cfg (.loop (cpath (Tryd.f4.body.getD .skip) [1, 1, 1, 1, 1, 1, 1, 1, 1, 0, 1, 0, 0])) ⟨[.any, .any, .any, .any, .any, .any, .any, .v (.one (.sc (.int .u32 (Int.tmod a0 (2147483648 : Int))))), .any, .any, .any, .any, .any, .any, .v (.one (.sc (.int .u32 (0 : Int)))), .v (.one (.fs (.int .i64) t21 false)), .v (.one (.sc (.int .i64 (0 : Int)))), .any, .any, .any, .any, .any, .any, .any, .any, .any, .any, .any, .any, .any, .any, .any, .any, .any, .any, .any, .any, .any, .any, .any, .any, .any, .any, .any, .any, .any, .any, .any, .any, .any, .any, .any, .any, .any, .any, .any, .any, .any, .any, .any, .any, .any, .any, .any, .any, .any, .any, .any, .any, .any, .any, .any, .any, .any, .any, .any, .any, .any, .any, .any, .any, .any, .any, .any, .any, .any, .any, .any, .any, .any, .any, .any, .any, .any, .any, .any, .any, .any, .any, .any, .any, .any, .any, .any, .any, .any, .any, .any, .any, .any, .any, .any, .any, .any, .any, .any, .any, .any, .any, .any, .any, .any], [], 0⟩ (fun e s => e = (.exit 0) ∧ s = ⟨[.any, .any, .any, .any, .any, .any, .any, .v (.one (.sc (.int .u32 (Int.tmod a0 (2147483648 : Int))))), .any, .any, .any, .any, .any, .any, .v (.one (.sc (.int .u32 t64))), .any, .any, .any, .any, .any, .any, .any, .any, .any, .any, .any, .any, .any, .any, .any, .any, .any, .any, .any, .any, .any, .any, .any, .any, .any, .any, .any, .any, .any, .any, .any, .any, .any, .any, .any, .any, .any, .any, .any, .any, .any, .any, .any, .any, .any, .any, .any, .any, .any, .any, .any, .any, .any, .any, .any, .any, .any, .any, .any, .any, .any, .any, .any, .any, .any, .any, .any, .any, .any, .any, .any, .any, .any, .any, .any, .any, .any, .any, .any, .any, .any, .any, .any, .any, .any, .any, .any, .any, .any, .any, .any, .any, .any, .any, .any, .any, .any, .any, .any, .any, .any, .any, .any, .any, .any, .any, .any], [], 0⟩) ∧ (True) ∧ (((t64 == (Int.tmod a0 (2147483648 : Int))) = true → (∃ t67 : Bool, (Fun cfg 20 [] [] (halterlaw03_sure.R t67) [] ∧ True) ∧ ((t64 == (Int.tmod a0 (2147483648 : Int))) = true ∧ (True ∧ ((True) ∧ (True) ∧ (.v (.one (.sc (.bool t67))) : Tm) = halterlaw03_SetLaws.R r ∧ ([] : List Box) = []))))) ∧ ((t64 == (Int.tmod a0 (2147483648 : Int))) = false → ((t64 == (Int.tmod a0 (2147483648 : Int))) = false ∧ (True ∧ ((True) ∧ (True) ∧ (.v (.one (.sc (.bool false))) : Tm) = halterlaw03_SetLaws.R r ∧ ([] : List Box) = [])))))) ∨ (∃ t68 : Unit, Trip cfg (.loop (cpath (Tryd.f4.body.getD .skip) [1, 1, 1, 1, 1, 1, 1, 1, 1, 0, 1, 0, 0])) ⟨[.any, .any, .any, .any, .any, .any, .any, .v (.one (.sc (.int .u32 (Int.tmod a0 (2147483648 : Int))))), .any, .any, .any, .any, .any, .any, .v (.one (.sc (.int .u32 (0 : Int)))), .v (.one (.fs (.int .i64) t21 false)), .v (.one (.sc (.int .i64 (0 : Int)))), .any, .any, .any, .any, .any, .any, .any, .any, .any, .any, .any, .any, .any, .any, .any, .any, .any, .any, .any, .any, .any, .any, .any, .any, .any, .any, .any, .any, .any, .any, .any, .any, .any, .any, .any, .any, .any, .any, .any, .any, .any, .any, .any, .any, .any, .any, .any, .any, .any, .any, .any, .any, .any, .any, .any, .any, .any, .any, .any, .any, .any, .any, .any, .any, .any, .any, .any, .any, .any, .any, .any, .any, .any, .any, .any, .any, .any, .any, .any, .any, .any, .any, .any, .any, .any, .any, .any, .any, .any, .any, .any, .any, .any, .any, .any, .any, .any, .any, .any, .any, .any, .any, .any, .any, .any], [], 0⟩ (fun e s => e = .ret ∧ s = ⟨[.any, .any, .any, .any, .any, .any, .v (.one (.sc (.bool false))), .any, .any, .any, .any, .any, .any, .any, .any, .any, .any, .any, .any, .any, .any, .any, .any, .any, .any, .any, .any, .any, .any, .any, .any, .any, .any, .any, .any, .any, .any, .any, .any, .any, .any, .any, .any, .any, .any, .any, .any, .any, .any, .any, .any, .any, .any, .any, .any, .any, .any, .any, .any, .any, .any, .any, .any, .any, .any, .any, .any, .any, .any, .any, .any, .any, .any, .any, .any, .any, .any, .any, .any, .any, .any, .any, .any, .any, .any, .any, .any, .any, .any, .any, .any, .any, .any, .any, .any, .any, .any, .any, .any, .any, .any, .any, .any, .any, .any, .any, .any, .any, .any, .any, .any, .any, .any, .any, .any, .any, .any, .any, .any, .any, .any, .any], [], 0⟩) ∧ ((True) ∧ (True) ∧ (.v (.one (.sc (.bool false))) : Tm) = halterlaw03_SetLaws.R r ∧ ([] : List Box) = [])))))))))))))))))) ∧ ((t15.1 != (Int.tmod a0 (2147483648 : Int))) = true → ((t15.1 != (Int.tmod a0 (2147483648 : Int))) = true ∧ ((t15.1 != (Int.tmod a0 (2147483648 : Int))) = true ∧ ((t15.1 != (Int.tmod a0 (2147483648 : Int))) = true ∧ ((t15.1 != (Int.tmod a0 (2147483648 : Int))) = true ∧ ((t15.1 != (Int.tmod a0 (2147483648 : Int))) = true ∧ ((t15.1 != (Int.tmod a0 (2147483648 : Int))) = true ∧ (true = true ∧ (True ∧ (True ∧ ((True) ∧ (True) ∧ (.v (.one (.sc (.bool false))) : Tm) = halterlaw03_SetLaws.R r ∧ ([] : List Box) = [])))))))))))))))) ∧ ((!(Option.isNone t15.2)) = true → ((!(Option.isNone t15.2)) = true ∧ ((!(Option.isNone t15.2)) = true ∧ ((!(Option.isNone t15.2)) = true ∧ (true = true ∧ (true = true ∧ (true = true ∧ (true = true ∧ (true = true ∧ (true = true ∧ (true = true ∧ (true = true ∧ (True ∧ (True ∧ ((True) ∧ (True) ∧ (.v (.one (.sc (.bool false))) : Tm) = halterlaw03_SetLaws.R r ∧ ([] : List Box) = [])))))))))))))))))))))))))))))))))) ∧ ((!(t8 == t9)) = true → ((!(t8 == t9)) = true ∧ ((!(t8 == t9)) = true ∧ ((!(t8 == t9)) = true ∧ ((!(t8 == t9)) = true ∧ ((!(t8 == t9)) = true ∧ ((!(t8 == t9)) = true ∧ ((halterlaw03_SetLaws.c0 a2 a1) = true ∧ ((!(t8 == t9)) = true ∧ (t5 = false ∧ ((halterlaw03_SetLaws.c0 a2 a1) = true ∧ (t5 = false ∧ (true = true ∧ (True ∧ (True ∧ ((True) ∧ (True) ∧ (.v (.one (.sc (.bool false))) : Tm) = halterlaw03_SetLaws.R r ∧ ([] : List Box) = []))))))))))))))))))))))))))) ∧ ((halterlaw03_SetLaws.c0 a2 a1) = false → ((halterlaw03_SetLaws.c0 a2 a1) = false ∧ ((halterlaw03_SetLaws.c0 a2 a1) = false ∧ ((halterlaw03_SetLaws.c0 a2 a1) = false ∧ ((halterlaw03_SetLaws.c0 a2 a1) = false ∧ ((halterlaw03_SetLaws.c0 a2 a1) = false ∧ ((halterlaw03_SetLaws.c0 a2 a1) = false ∧ ((halterlaw03_SetLaws.c0 a2 a1) = false ∧ ((halterlaw03_SetLaws.c0 a2 a1) = false ∧ (t5 = false ∧ ((halterlaw03_SetLaws.c0 a2 a1) = false ∧ (t5 = false ∧ (false = false ∧ (∃ t69 : ByteArray, (Fun cfg 22 [.one (.sc (.int .u32 (Int.tmod a0 (2147483648 : Int))))] [] (sigset_Text.R t69) [] ∧ True) ∧ (∃ t70 : Int × (Option Int), (Fun cfg 21 [.one (.sc (.string t69))] [] (sigset_Parse.R t70) [] ∧ True) ∧ (True) ∧ (((!(Option.isNone t70.2)) = false → ((!(Option.isNone t70.2)) = false ∧ ((!(Option.isNone t70.2)) = false ∧ (True) ∧ ((!(Option.isNone t70.2)) = false ∧ (((t70.1 != (Int.tmod a0 (2147483648 : Int))) = false → ((t70.1 != (Int.tmod a0 (2147483648 : Int))) = false ∧ (∃ t73 : Int, (Fun cfg 18 [.one (.sc (.int .u32 t1))] [] (sigset_Count.R t73) [] ∧ True) ∧ ((t70.1 != (Int.tmod a0 (2147483648 : Int))) = false ∧ ((t70.1 != (Int.tmod a0 (2147483648 : Int))) = false ∧ (∃ t74 : Int, (Fun cfg 18 [.one (.sc (.int .u32 t2))] [] (sigset_Count.R t74) [] ∧ True) ∧ ((t70.1 != (Int.tmod a0 (2147483648 : Int))) = false ∧ (True) ∧ ((t70.1 != (Int.tmod a0 (2147483648 : Int))) = false ∧ (True) ∧ ((t70.1 != (Int.tmod a0 (2147483648 : Int))) = false ∧ (((t73 != (IntKind.wrap .i64 (t74 + (1 : Int)))) = true → (True ∧ (True ∧ ((True) ∧ (True) ∧ (.v (.one (.sc (.bool false))) : Tm) = halterlaw03_SetLaws.R r ∧ ([] : List Box) = [])))) ∧ ((t73 != (IntKind.wrap .i64 (t74 + (1 : Int)))) = false → (∃ t76 : (List Int), (Fun cfg 17 [.one (.sc (.int .u32 (Int.tmod a0 (2147483648 : Int))))] [] (sigset_List.R t76) [] ∧ True) ∧ (True ∧ (True ∧ (((True) ∧ True) ∧ ((∃ t119 : Int, Trip cfg (.loop (cpath (Tryd.f4.body.getD .skip) [1, 1, 1, 1, 1, 1, 1, 1, 1, 0, 1, 0, 0])) ⟨[.any, .any, .any, .any, .any, .any, .any, .v (.one (.sc (.int .u32 (Int.tmod a0 (2147483648 : Int))))), .any, .any, .any, .any, .any, .any, .v (.one (.sc (.int .u32 (0 : Int)))), .v (.one (.fs (.int .i64) t76 false)), .v (.one (.sc (.int .i64 (0 : Int)))), .any, .any, .any, .any, .any, .any, .any, .any, .any, .any, .any, .any, .any, .any, .any, .any, .any, .any, .any, .any, .any, .any, .any, .any, .any, .any, .any, .any, .any, .any, .any, .any, .any, .any, .any, .any, .any, .any, .any, .any, .any, .any, .any, .any, .any, .any, .any, .any, .any, .any, .any, .any, .any, .any, .any, .any, .any, .any, .any, .any, .any, .any, .any, .any, .any, .any, .any, .any, .any, .any, .any, .any, .any, .any, .any, .any, .any, .any, .any, .any, .any, .any, .any, .any, .any, .any, .any, .any, .any, .any, .any, .any, .any, .any, .any, .any, .any, .any, .any, .any, .any, .any, .any, .any, .any], [], 0⟩ (fun e s => e = (.exit 0) ∧ s = ⟨[.any, .any, .any, .any, .any, .any, .any, .v (.one (.sc (.int .u32 (Int.tmod a0 (2147483648 : Int))))), .any, .any, .any, .any, .any, .any, .v (.one (.sc (.int .u32 t119))), .any, .any, .any, .any, .any, .any, .any, .any, .any, .any, .any, .any, .any, .any, .any, .any, .any, .any, .any, .any, .any, .any, .any, .any, .any, .any, .any, .any, .any, .any, .any, .any, .any, .any, .any, .any, .any, .any, .any, .any, .any, .any, .any, .any, .any, .any, .any, .any, .any, .any, .any, .any, .any, .any, .any, .any, .any, .any, .any, .any, .any, .any, .any, .any, .any, .any, .any, .any, .any, .any, .any, .any, .any, .any, .any, .any, .any, .any, .any, .any, .any, .any, .any, .any, .any, .any, .any, .any, .any, .any, .any, .any, .any, .any, .any, .any, .any, .any, .any, .any, .any, .any, .any, .any, .any, .any, .any], [], 0⟩) ∧ (True) ∧ (((t119 == (Int.tmod a0 (2147483648 : Int))) = true → (∃ t122 : Bool, (Fun cfg 20 [] [] (halterlaw03_sure.R t122) [] ∧ True) ∧ ((t119 == (Int.tmod a0 (2147483648 : Int))) = true ∧ (True ∧ ((True) ∧ (True) ∧ (.v (.one (.sc (.bool t122))) : Tm) = halterlaw03_SetLaws.R r ∧ ([] : List Box) = []))))) ∧ ((t119 == (Int.tmod a0 (2147483648 : Int))) = false → ((t119 == (Int.tmod a0 (2147483648 : Int))) = false ∧ (True ∧ ((True) ∧ (True) ∧ (.v (.one (.sc (.bool false))) : Tm) = halterlaw03_SetLaws.R r ∧ ([] : List Box) = [])))))) ∨ (∃ t123 : Unit, Trip cfg (.loop (cpath (Tryd.f4.body.getD .skip) [1, 1, 1, 1, 1, 1, 1, 1, 1, 0, 1, 0, 0])) ⟨[.any, .any, .any, .any, .any, .any, .any, .v (.one (.sc (.int .u32 (Int.tmod a0 (2147483648 : Int))))), .any, .any, .any, .any, .any, .any, .v (.one (.sc (.int .u32 (0 : Int)))), .v (.one (.fs (.int .i64) t76 false)), .v (.one (.sc (.int .i64 (0 : Int)))), .any, .any, .any, .any, .any, .any, .any, .any, .any, .any, .any, .any, .any, .any, .any, .any, .any, .any, .any, .any, .any, .any, .any, .any, .any, .any, .any, .any, .any, .any, .any, .any, .any, .any, .any, .any, .any, .any, .any, .any, .any, .any, .any, .any, .any, .any, .any, .any, .any, .any, .any, .any, .any, .any, .any, .any, .any, .any, .any, .any, .any, .any, .any, .any, .any, .any, .any, .any, .any, .any, .any, .any, .any, .any, .any, .any, .any, .any, .any, .any, .any, .any, .any, .any, .any, .any, .any, .any, .any, .any, .any, .any, .any, .any, .any, .any, .any, .any, .any, .any, .any, .any, .any, .any, .any], [], 0⟩ (fun e s => e = .ret ∧ s = ⟨[.any, .any, .any, .any, .any, .any, .v (.one (.sc (.bool false))), .any, .any, .any, .any, .any, .any, .any, .any, .any, .any, .any, .any, .any, .any, .any, .any, .any, .any, .any, .any, .any, .any, .any, .any, .any, .any, .any, .any, .any, .any, .any, .any, .any, .any, .any, .any, .any, .any, .any, .any, .any, .any, .any, .any, .any, .any, .any, .any, .any, .any, .any, .any, .any, .any, .any, .any, .any, .any, .any, .any, .any, .any, .any, .any, .any, .any, .any, .any, .any, .any, .any, .any, .any, .any, .any, .any, .any, .any, .any, .any, .any, .any, .any, .any, .any, .any, .any, .any, .any, .any, .any, .any, .any, .any, .any, .any, .any, .any, .any, .any, .any, .any, .any, .any, .any, .any, .any, .any, .any, .any, .any, .any, .any, .any, .any], [], 0⟩) ∧ ((True) ∧ (True) ∧ (.v (.one (.sc (.bool false))) : Tm) = halterlaw03_SetLaws.R r ∧ ([] : List Box) = [])))))))))))))))))) ∧ ((t70.1 != (Int.tmod a0 (2147483648 : Int))) = true → ((t70.1 != (Int.tmod a0 (2147483648 : Int))) = true ∧ ((t70.1 != (Int.tmod a0 (2147483648 : Int))) = true ∧ ((t70.1 != (Int.tmod a0 (2147483648 : Int))) = true ∧ ((t70.1 != (Int.tmod a0 (2147483648 : Int))) = true ∧ ((t70.1 != (Int.tmod a0 (2147483648 : Int))) = true ∧ ((t70.1 != (Int.tmod a0 (2147483648 : Int))) = true ∧ (true = true ∧ (True ∧ (True ∧ ((True) ∧ (True) ∧ (.v (.one (.sc (.bool false))) : Tm) = halterlaw03_SetLaws.R r ∧ ([] : List Box) = [])))))))))))))))) ∧ ((!(Option.isNone t70.2)) = true → ((!(Option.isNone t70.2)) = true ∧ ((!(Option.isNone t70.2)) = true ∧ ((!(Option.isNone t70.2)) = true ∧ (true = true ∧ (true = true ∧ (true = true ∧ (true = true ∧ (true = true ∧ (true = true ∧ (true = true ∧ (true = true ∧ (True ∧ (True ∧ ((True) ∧ (True) ∧ (.v (.one (.sc (.bool false))) : Tm) = halterlaw03_SetLaws.R r ∧ ([] : List Box) = [])))))))))))))))))))))))))))))))))))) ∧ (t5 = true → (t5 = true ∧ (t5 = true ∧ (t5 = true ∧ (t5 = true ∧ (t5 = true ∧ (true = true ∧ (True ∧ (True ∧ ((True) ∧ (True) ∧ (.v (.one (.sc (.bool false))) : Tm) = halterlaw03_SetLaws.R r ∧ ([] : List Box) = [])))))))))))))))) ∧ ((!t3) = true → ((!t3) = true ∧ ((!t3) = true ∧ ((!t3) = true ∧ (true = true ∧ (true = true ∧ (true = true ∧ (true = true ∧ (true = true ∧ (true = true ∧ (true = true ∧ (True ∧ (True ∧ ((True) ∧ (True) ∧ (.v (.one (.sc (.bool false))) : Tm) = halterlaw03_SetLaws.R r ∧ ([] : List Box) = []))))))))))))))))))) (by kernel_rfl) ?_)
  refine ⟨(by decide), ?_⟩
  refine ⟨trivial, ?_⟩
  refine ⟨(by decide), ?_⟩
  refine ⟨trivial, ?_⟩
  refine ⟨trivial, ?_⟩
  refine ⟨trivial, ?_⟩
  refine ⟨(by decide), ?_⟩
  refine ⟨trivial, ?_⟩
  refine ⟨trivial, ?_⟩
  obtain ⟨t1, ht1, h⟩ := of_bind h
  refine ⟨t1, ⟨sigset_Add.fun_ ht1, trivial⟩, ?_⟩
  obtain ⟨t2, ht2, h⟩ := of_bind h
  refine ⟨t2, ⟨sigset_Del.fun_ ht2, trivial⟩, ?_⟩
  obtain ⟨t3, ht3, h⟩ := of_bind h
  refine ⟨t3, ⟨sigset_Has.fun_ ht3, trivial⟩, ?_⟩
  refine ⟨fun b4 => ?_, fun b4 => ?_⟩
  · rw [if_neg (not_not_intro (not_f b4))] at h
    refine ⟨b4, ?_⟩
    refine ⟨b4, ?_⟩
    obtain ⟨t5, ht5, h⟩ := of_bind h
    refine ⟨t5, ⟨sigset_Has.fun_ ht5, trivial⟩, ?_⟩
    refine ⟨b4, ?_⟩
    refine ⟨fun b6 => ?_, fun b6 => ?_⟩
    · rw [if_neg (ff b6)] at h
      refine ⟨b6, ?_⟩
      refine ⟨b6, ?_⟩
      refine ⟨trivial, ?_⟩
      refine ⟨b6, ?_⟩
      refine ⟨fun b7 => ?_, fun b7 => ?_⟩
      · rw [if_pos (bne_t b7)] at h
        refine ⟨b7, ?_⟩
        refine ⟨b7, ?_⟩
        obtain ⟨t8, ht8, h⟩ := of_bind h
        refine ⟨t8, ⟨sigset_Has.fun_ ht8, trivial⟩, ?_⟩
        refine ⟨b7, ?_⟩
        refine ⟨b7, ?_⟩
        refine ⟨b7, ?_⟩
        obtain ⟨t9, ht9, h⟩ := of_bind h
        refine ⟨t9, ⟨sigset_Has.fun_ ht9, trivial⟩, ?_⟩
        refine ⟨b7, ?_⟩
        refine ⟨trivial, ?_⟩
        refine ⟨b7, ?_⟩
        refine ⟨fun b10 => ?_, fun b10 => ?_⟩
        · rw [if_neg (not_not_intro (bb_t (not_f b10)))] at h
          refine ⟨b10, ?_⟩
          refine ⟨b10, ?_⟩
          obtain ⟨t11, ht11, h⟩ := of_bind h
          refine ⟨t11, ⟨sigset_Has.fun_ ht11, trivial⟩, ?_⟩
          refine ⟨b10, ?_⟩
          refine ⟨b10, ?_⟩
          refine ⟨b10, ?_⟩
          obtain ⟨t12, ht12, h⟩ := of_bind h
          refine ⟨t12, ⟨sigset_Has.fun_ ht12, trivial⟩, ?_⟩
          refine ⟨b10, ?_⟩
          refine ⟨trivial, ?_⟩
          refine ⟨b7, ?_⟩
          refine ⟨b10, ?_⟩
          refine ⟨b6, ?_⟩
          refine ⟨b7, ?_⟩
          refine ⟨b6, ?_⟩
          refine ⟨fun b13 => ?_, fun b13 => ?_⟩
          · rw [if_pos (bb_f (not_t b13))] at h
            refine ⟨trivial, ?_⟩
            refine ⟨trivial, ?_⟩
            obtain rfl := Option.some.inj h
            exact ⟨trivial, trivial, rfl, rfl⟩
          · rw [if_neg (not_not_intro (bb_t (not_f b13)))] at h
            obtain ⟨t14, ht14, h⟩ := of_bind h
            refine ⟨t14, ⟨sigset_Text.fun_ ht14, trivial⟩, ?_⟩
            obtain ⟨t15, ht15, h⟩ := of_bind h
            refine ⟨t15, ⟨sigset_Parse.fun_ ht15, trivial⟩, ?_⟩
            refine ⟨trivial, ?_⟩
            refine ⟨fun b16 => ?_, fun b16 => ?_⟩
            · rw [if_neg (not_not_intro (none_t (not_f b16)))] at h
              refine ⟨b16, ?_⟩
              refine ⟨b16, ?_⟩
              refine ⟨trivial, ?_⟩
              refine ⟨b16, ?_⟩
              refine ⟨fun b17 => ?_, fun b17 => ?_⟩
              · rw [if_neg (not_not_intro (bne_f b17))] at h
                refine ⟨b17, ?_⟩
                obtain ⟨t18, ht18, h⟩ := of_bind h
                refine ⟨t18, ⟨sigset_Count.fun_ ht18, trivial⟩, ?_⟩
                refine ⟨b17, ?_⟩
                refine ⟨b17, ?_⟩
                obtain ⟨t19, ht19, h⟩ := of_bind h
                refine ⟨t19, ⟨sigset_Count.fun_ ht19, trivial⟩, ?_⟩
                refine ⟨b17, ?_⟩
                refine ⟨trivial, ?_⟩
                refine ⟨b17, ?_⟩
                refine ⟨trivial, ?_⟩
                refine ⟨b17, ?_⟩
                refine ⟨fun b20 => ?_, fun b20 => ?_⟩
                · rw [if_pos (bne_t b20)] at h
                  refine ⟨trivial, ?_⟩
                  refine ⟨trivial, ?_⟩
                  obtain rfl := Option.some.inj h
                  exact ⟨trivial, trivial, rfl, rfl⟩
                · rw [if_neg (not_not_intro (bne_f b20))] at h
                  obtain ⟨t21, ht21, h⟩ := of_bind h
                  refine ⟨t21, ⟨sigset_List.fun_ ht21, trivial⟩, ?_⟩
                  refine ⟨trivial, ?_⟩
                  refine ⟨trivial, ?_⟩
                  obtain ⟨t39, ht39, h⟩ := of_bind h
                  refine ⟨⟨trivial, trivial⟩, ?_⟩
                  rcases t39 with t64 | t68
                  · dsimp only at h
                    left
                    refine ⟨t64, Trip.loop FUEL (halterlaw03_SetLaws.l0_ok t21 a0 FUEL (0 : Int) (0 : Int) (.inl t64) ht39), ?_⟩
                    refine ⟨trivial, ?_⟩
                    refine ⟨fun b66 => ?_, fun b66 => ?_⟩
                    · rw [if_pos (beq_t b66)] at h
                      obtain ⟨t67, ht67, h⟩ := of_bind h
                      refine ⟨t67, ⟨halterlaw03_sure.fun_ ht67, trivial⟩, ?_⟩
                      refine ⟨b66, ?_⟩
                      refine ⟨trivial, ?_⟩
                      obtain rfl := Option.some.inj h
                      exact ⟨trivial, trivial, rfl, rfl⟩
                    · rw [if_neg (beq_f b66)] at h
                      refine ⟨b66, ?_⟩
                      refine ⟨trivial, ?_⟩
                      obtain rfl := Option.some.inj h
                      exact ⟨trivial, trivial, rfl, rfl⟩
                  · dsimp only at h
                    right
                    refine ⟨t68, Trip.loop FUEL (halterlaw03_SetLaws.l0_ok t21 a0 FUEL (0 : Int) (0 : Int) (.inr t68) ht39), ?_⟩
                    obtain rfl := Option.some.inj h
                    exact ⟨trivial, trivial, rfl, rfl⟩
              · rw [if_pos (bne_t b17)] at h
                refine ⟨b17, ?_⟩
                refine ⟨b17, ?_⟩
                refine ⟨b17, ?_⟩
                refine ⟨b17, ?_⟩
                refine ⟨b17, ?_⟩
                refine ⟨b17, ?_⟩
                refine ⟨rfl, ?_⟩
                refine ⟨trivial, ?_⟩
                refine ⟨trivial, ?_⟩
                obtain rfl := Option.some.inj h
                exact ⟨trivial, trivial, rfl, rfl⟩
            · rw [if_pos (none_f (not_t b16))] at h
              refine ⟨b16, ?_⟩
              refine ⟨b16, ?_⟩
              refine ⟨b16, ?_⟩
              refine ⟨rfl, ?_⟩
              refine ⟨rfl, ?_⟩
              refine ⟨rfl, ?_⟩
              refine ⟨rfl, ?_⟩
              refine ⟨rfl, ?_⟩
              refine ⟨rfl, ?_⟩
              refine ⟨rfl, ?_⟩
              refine ⟨rfl, ?_⟩
              refine ⟨trivial, ?_⟩
              refine ⟨trivial, ?_⟩
              obtain rfl := Option.some.inj h
              exact ⟨trivial, trivial, rfl, rfl⟩
        · rw [if_pos (bb_f (not_t b10))] at h
          refine ⟨b10, ?_⟩
          refine ⟨b10, ?_⟩
          refine ⟨b10, ?_⟩
          refine ⟨b10, ?_⟩
          refine ⟨b10, ?_⟩
          refine ⟨b10, ?_⟩
          refine ⟨b7, ?_⟩
          refine ⟨b10, ?_⟩
          refine ⟨b6, ?_⟩
          refine ⟨b7, ?_⟩
          refine ⟨b6, ?_⟩
          refine ⟨rfl, ?_⟩
          refine ⟨trivial, ?_⟩
          refine ⟨trivial, ?_⟩
          obtain rfl := Option.some.inj h
          exact ⟨trivial, trivial, rfl, rfl⟩
      · rw [if_neg (not_not_intro (bne_f b7))] at h
        refine ⟨b7, ?_⟩
        refine ⟨b7, ?_⟩
        refine ⟨b7, ?_⟩
        refine ⟨b7, ?_⟩
        refine ⟨b7, ?_⟩
        refine ⟨b7, ?_⟩
        refine ⟨b7, ?_⟩
        refine ⟨b7, ?_⟩
        refine ⟨b6, ?_⟩
        refine ⟨b7, ?_⟩
        refine ⟨b6, ?_⟩
        refine ⟨rfl, ?_⟩
        obtain ⟨t69, ht69, h⟩ := of_bind h
        refine ⟨t69, ⟨sigset_Text.fun_ ht69, trivial⟩, ?_⟩
        obtain ⟨t70, ht70, h⟩ := of_bind h
        refine ⟨t70, ⟨sigset_Parse.fun_ ht70, trivial⟩, ?_⟩
        refine ⟨trivial, ?_⟩
        refine ⟨fun b71 => ?_, fun b71 => ?_⟩
        · rw [if_neg (not_not_intro (none_t (not_f b71)))] at h
          refine ⟨b71, ?_⟩
          refine ⟨b71, ?_⟩
          refine ⟨trivial, ?_⟩
          refine ⟨b71, ?_⟩
          refine ⟨fun b72 => ?_, fun b72 => ?_⟩
          · rw [if_neg (not_not_intro (bne_f b72))] at h
            refine ⟨b72, ?_⟩
            obtain ⟨t73, ht73, h⟩ := of_bind h
            refine ⟨t73, ⟨sigset_Count.fun_ ht73, trivial⟩, ?_⟩
            refine ⟨b72, ?_⟩
            refine ⟨b72, ?_⟩
            obtain ⟨t74, ht74, h⟩ := of_bind h
            refine ⟨t74, ⟨sigset_Count.fun_ ht74, trivial⟩, ?_⟩
            refine ⟨b72, ?_⟩
            refine ⟨trivial, ?_⟩
            refine ⟨b72, ?_⟩
            refine ⟨trivial, ?_⟩
            refine ⟨b72, ?_⟩
            refine ⟨fun b75 => ?_, fun b75 => ?_⟩
            · rw [if_pos (bne_t b75)] at h
              refine ⟨trivial, ?_⟩
              refine ⟨trivial, ?_⟩
              obtain rfl := Option.some.inj h
              exact ⟨trivial, trivial, rfl, rfl⟩
            · rw [if_neg (not_not_intro (bne_f b75))] at h
              obtain ⟨t76, ht76, h⟩ := of_bind h
              refine ⟨t76, ⟨sigset_List.fun_ ht76, trivial⟩, ?_⟩
              refine ⟨trivial, ?_⟩
              refine ⟨trivial, ?_⟩
              obtain ⟨t94, ht94, h⟩ := of_bind h
              refine ⟨⟨trivial, trivial⟩, ?_⟩
              rcases t94 with t119 | t123
              · dsimp only at h
                left
                refine ⟨t119, Trip.loop FUEL (halterlaw03_SetLaws.l2_ok t76 a0 FUEL (0 : Int) (0 : Int) (.inl t119) ht94), ?_⟩
                refine ⟨trivial, ?_⟩
                refine ⟨fun b121 => ?_, fun b121 => ?_⟩
                · rw [if_pos (beq_t b121)] at h
                  obtain ⟨t122, ht122, h⟩ := of_bind h
                  refine ⟨t122, ⟨halterlaw03_sure.fun_ ht122, trivial⟩, ?_⟩
                  refine ⟨b121, ?_⟩
                  refine ⟨trivial, ?_⟩
                  obtain rfl := Option.some.inj h
                  exact ⟨trivial, trivial, rfl, rfl⟩
                · rw [if_neg (beq_f b121)] at h
                  refine ⟨b121, ?_⟩
                  refine ⟨trivial, ?_⟩
                  obtain rfl := Option.some.inj h
                  exact ⟨trivial, trivial, rfl, rfl⟩
              · dsimp only at h
                right
                refine ⟨t123, Trip.loop FUEL (halterlaw03_SetLaws.l2_ok t76 a0 FUEL (0 : Int) (0 : Int) (.inr t123) ht94), ?_⟩
                obtain rfl := Option.some.inj h
                exact ⟨trivial, trivial, rfl, rfl⟩
          · rw [if_pos (bne_t b72)] at h
            refine ⟨b72, ?_⟩
            refine ⟨b72, ?_⟩
            refine ⟨b72, ?_⟩
            refine ⟨b72, ?_⟩
            refine ⟨b72, ?_⟩
            refine ⟨b72, ?_⟩
            refine ⟨rfl, ?_⟩
            refine ⟨trivial, ?_⟩
            refine ⟨trivial, ?_⟩
            obtain rfl := Option.some.inj h
            exact ⟨trivial, trivial, rfl, rfl⟩
        · rw [if_pos (none_f (not_t b71))] at h
          refine ⟨b71, ?_⟩
          refine ⟨b71, ?_⟩
          refine ⟨b71, ?_⟩
          refine ⟨rfl, ?_⟩
          refine ⟨rfl, ?_⟩
          refine ⟨rfl, ?_⟩
          refine ⟨rfl, ?_⟩
          refine ⟨rfl, ?_⟩
          refine ⟨rfl, ?_⟩
          refine ⟨rfl, ?_⟩
          refine ⟨rfl, ?_⟩
          refine ⟨trivial, ?_⟩
          refine ⟨trivial, ?_⟩
          obtain rfl := Option.some.inj h
          exact ⟨trivial, trivial, rfl, rfl⟩
    · rw [if_pos b6] at h
      refine ⟨b6, ?_⟩
      refine ⟨b6, ?_⟩
      refine ⟨b6, ?_⟩
      refine ⟨b6, ?_⟩
      refine ⟨b6, ?_⟩
      refine ⟨rfl, ?_⟩
      refine ⟨trivial, ?_⟩
      refine ⟨trivial, ?_⟩
      obtain rfl := Option.some.inj h
      exact ⟨trivial, trivial, rfl, rfl⟩
  · rw [if_pos (ff (not_t b4))] at h
    refine ⟨b4, ?_⟩
    refine ⟨b4, ?_⟩
    refine ⟨b4, ?_⟩
    refine ⟨rfl, ?_⟩
    refine ⟨rfl, ?_⟩
    refine ⟨rfl, ?_⟩
    refine ⟨rfl, ?_⟩
    refine ⟨rfl, ?_⟩
    refine ⟨rfl, ?_⟩
    refine ⟨rfl, ?_⟩
    refine ⟨trivial, ?_⟩
    refine ⟨trivial, ?_⟩
    obtain rfl := Option.some.inj h
    exact ⟨trivial, trivial, rfl, rfl⟩
end Go.Proofs.YtndjiebeihcbgaaDoorGSetLaws
