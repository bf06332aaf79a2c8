/- Printed by gen.py: the next part. -/
import Derived.Test.YticdckalmebhmaaDoorGFileCountsp0
set_option linter.unusedVariables false
set_option maxRecDepth 100000
set_option maxHeartbeats 4000000
namespace Go.Proofs.YticdckalmebhmaaDoorGFileCounts
open Go Go.Proofs.YticdckalmebhmaaDoorE
theorem halterlaw19_FileCounts.fun_ {a0 : Int} {a1 : Int} {r : Bool} (h : halterlaw19_FileCounts.f a0 a1 = some r) : Fun cfg 4 [.one (.sc (.int .i64 a0)), .one (.sc (.int .i64 a1))] [] (halterlaw19_FileCounts.R r) [] := by
  unfold halterlaw19_FileCounts.f at h
  refine fun_of_run cfg_ok (f := 4) (fn := Tryd.f4) Tryd.func4 rfl (by kernel_rfl) (rs := [.tmp 4]) rfl (nt := 153) rfl (l := fin) (k := (.alt (.callR true [] [] (Int) (fun t2 => (file_New.R (.inl t2))) (fun t2 => (file_New.B (3 : Int) (.inl t2))) (fun t2 => (.one true (.one true (.one true (.one true (.adj [] (.adj [] (.adj [] .nil))))))))) (.callR true [] [] (Nat × Nat × (List (Int × (Int × (Int × (Bool × (Bool × (ByteArray × Int)))))))) (fun t3 => (file_New.R (.inr t3))) (fun t3 => (file_New.B (3 : Int) (.inr t3))) (fun t3 => (.one false (.one false (.one false (.one false (.callR true [] [0, 1] (Int × (Option Int) × (List (Int × (Int × (Int × (Bool × (Bool × (ByteArray × Int)))))))) (fun t4 => (file_Table_Open.R t4)) (fun t4 => (file_Table_Open.B (0 : Int) (1 : Int) (0 : Int) false false ByteArray.empty (0 : Int) t3.1 t3.2.1 (z2 t3) t4)) (fun t4 => (.callR true [] [0, 1] (Int × (Option Int) × (List (Int × (Int × (Int × (Bool × (Bool × (ByteArray × Int)))))))) (fun t5 => (file_Table_Open.R t5)) (fun t5 => (file_Table_Open.B (2 : Int) (2 : Int) (0 : Int) false false ByteArray.empty (0 : Int) t3.1 t3.2.1 (z2 t4) t5)) (fun t5 => (.br (.one true (.one true (.one true (.one true (.one true (.one true (.one true (.adj [] (.adj [] (.adj [.drop 0] .nil)))))))))) (.one false (.one false (.br (.one true (.one true (.one true (.one true (.adj [] (.adj [] (.adj [.drop 0] .nil))))))) (.one false (.one false (.one false (.br (.adj [] (.adj [] (.adj [.drop 0] .nil))) (.br (.callR true [] [0, 1] (TY0) (fun t10 => (file_Table_Get.R t10)) (fun t10 => (file_Table_Get.B t4.1 t3.1 t3.2.1 (z2 t5) t10)) (fun t10 => (.adj [] (.adj [] (.adj [] (.adj [.keep [5, 11, 12, 13, 14, 15, 16]] (.alt (.sub ((List (Int × (Int × (Int × (Bool × (Bool × (ByteArray × Int)))))))) (fun _ => (.exit 0)) (fun t28 => ⟨[.any, .any, .any, .any, .any, .v (.one (.ptr 0 ⟨0, 0, 0, 0⟩)), .any, .any, .any, .any, .any, .v (.one (.sc (.int .i64 t5.1))), .v (.one (.sc (.int .i64 t4.1))), .v (.one (.ptr 2 ⟨0, 0, 0, 0⟩)), .v (.one (.err (z7 t10))), .v (.one (.sc (.int .i64 (IntKind.wrap .i64 ((Int.tmod (IntKind.wrap .u64 (a0)) (40 : Int))))))), .any, .any, .any, .any, .any, .any, .any, .any, .any, .any, .any, .any, .any, .any, .any, .any, .any, .any, .any, .any, .any, .any, .any, .any, .any, .any, .any, .any, .any, .any, .any, .any, .any, .any, .any, .any, .any, .any, .any, .any, .any, .any, .any, .any, .any, .any, .any, .any, .any, .any, .any, .any, .any, .any, .any, .any, .any, .any, .any, .any, .any, .any, .any, .any, .any, .any, .any, .any, .any, .any, .any, .any, .any, .any, .any, .any, .any, .any, .any, .any, .any, .any, .any, .any, .any, .any, .any, .any, .any, .any, .any, .any, .any, .any, .any, .any, .any, .any, .any, .any, .any, .any, .any, .any, .any, .any, .any, .any, .any, .any, .any, .any, .any, .any, .any, .any, .any, .any, .any, .any, .any, .any, .any, .any, .any, .any, .any, .any, .any, .any, .any, .any, .any, .any, .any, .any, .any], [.ex false [.c (.os 1 0 0 7 t3.1 none)] 72, .ex false [.row t3.2.1 (.pair (.int .i64) (.pair (.int .i64) (.pair (.int .i64) (.pair .bool (.pair .bool (.pair .str (.int .i64))))))) t28] 30, (halterlaw19_FileCounts.c0 t10)], 0⟩) (fun t28 => (.adj [] (.adj [] (.adj [.keep [5, 11, 12, 13, 14, 15, 17]] (.alt (.sub ((List (Int × (Int × (Int × (Bool × (Bool × (ByteArray × Int)))))))) (fun _ => (.exit 2)) (fun t53 => ⟨[.any, .any, .any, .any, .any, .v (.one (.ptr 0 ⟨0, 0, 0, 0⟩)), .any, .any, .any, .any, .any, .v (.one (.sc (.int .i64 t5.1))), .v (.one (.sc (.int .i64 t4.1))), .v (.one (.ptr 2 ⟨0, 0, 0, 0⟩)), .v (.one (.err (z7 t10))), .any, .any, .any, .any, .any, .any, .any, .any, .any, .any, .any, .any, .any, .any, .any, .any, .any, .any, .any, .any, .any, .any, .any, .any, .any, .any, .any, .any, .any, .any, .any, .any, .any, .any, .any, .any, .any, .any, .any, .any, .any, .any, .any, .any, .any, .any, .any, .any, .any, .any, .any, .any, .any, .any, .any, .any, .any, .any, .any, .any, .any, .any, .any, .any, .any, .any, .any, .any, .any, .any, .any, .any, .any, .any, .any, .any, .any, .any, .any, .any, .any, .any, .any, .any, .any, .any, .any, .any, .any, .any, .any, .any, .any, .any, .any, .any, .any, .any, .any, .any, .any, .any, .any, .any, .any, .any, .any, .any, .any, .any, .any, .any, .any, .any, .any, .any, .any, .any, .any, .any, .any, .any, .any, .any, .any, .any, .any, .any, .any, .any, .any, .any, .any, .any, .any, .any, .any, .any], [.ex false [.c (.os 1 0 0 7 t3.1 none)] 72, .ex false [.row t3.2.1 (.pair (.int .i64) (.pair (.int .i64) (.pair (.int .i64) (.pair .bool (.pair .bool (.pair .str (.int .i64))))))) t53] 30, (halterlaw19_FileCounts.c0 t10)], 0⟩) (fun t53 => (.callR true [] [0, 1] (Int × Int × Int × Bool × Bool × ByteArray × Int × Bool × (Option Int) × (List (Int × (Int × (Int × (Bool × (Bool × (ByteArray × Int)))))))) (fun t55 => (file_Table_Unref.R t55)) (fun t55 => (file_Table_Unref.B t5.1 t3.1 t3.2.1 t53 t55)) (fun t55 => (.callR true [] [0, 1] (TY0) (fun t56 => (file_Table_Get.R t56)) (fun t56 => (file_Table_Get.B t4.1 t3.1 t3.2.1 (z9 t55) t56)) (fun t56 => (.br (.one true (.call true [] (Int) (fun t58 => num.R t58) (fun t58 => (.one true (.one true (.br (.one true (.one true (.br (.one true (.one true (.one true (.br (.one true (.callR true [] [0, 1] ((List Int)) (fun t62 => (file_Table_List.R t62)) (fun t62 => (file_Table_List.B t3.1 t3.2.1 (z9 t55) t62)) (fun t62 => (.one true (.one true (.one true (.call true [] (Bool) (fun t63 => halterlaw19_ints.R t63) (fun t63 => (.one true (.br (.call true [] (Bool) (fun t65 => halterlaw19_sure.R t65) (fun t65 => (.one true (.adj [] (.adj [.drop 0] .nil))))) (.one false (.adj [] (.adj [.drop 0] .nil))))))))))))) (.one false (.one false (.one false (.one false (.one false (.one false (.one false (.adj [] (.adj [.drop 0] .nil))))))))))))) (.one false (.one false (.one false (.one false (.one false (.one false (.one false (.one false (.one false (.one false (.one false (.adj [] (.adj [.drop 0] .nil)))))))))))))))) (.one false (.one false (.one false (.one false (.one false (.one false (.one false (.one false (.one false (.one false (.one false (.one false (.one false (.one false (.adj [] (.adj [.drop 0] .nil)))))))))))))))))))))) (.one false (.one false (.one false (.one false (.one false (.one false (.one false (.one false (.one false (.one false (.one false (.one false (.one false (.one false (.one false (.one false (.one false (.one false (.adj [] (.adj [.drop 0] .nil))))))))))))))))))))))))))) (.sub ((List (Int × (Int × (Int × (Bool × (Bool × (ByteArray × Int)))))))) (fun _ => .ret) (fun t66 => ⟨[.any, .any, .any, .any, .v (.one (.sc (.bool false))), .any, .any, .any, .any, .any, .any, .any, .any, .any, .any, .any, .any, .any, .any, .any, .any, .any, .any, .any, .any, .any, .any, .any, .any, .any, .any, .any, .any, .any, .any, .any, .any, .any, .any, .any, .any, .any, .any, .any, .any, .any, .any, .any, .any, .any, .any, .any, .any, .any, .any, .any, .any, .any, .any, .any, .any, .any, .any, .any, .any, .any, .any, .any, .any, .any, .any, .any, .any, .any, .any, .any, .any, .any, .any, .any, .any, .any, .any, .any, .any, .any, .any, .any, .any, .any, .any, .any, .any, .any, .any, .any, .any, .any, .any, .any, .any, .any, .any, .any, .any, .any, .any, .any, .any, .any, .any, .any, .any, .any, .any, .any, .any, .any, .any, .any, .any, .any, .any, .any, .any, .any, .any, .any, .any, .any, .any, .any, .any, .any, .any, .any, .any, .any, .any, .any, .any, .any, .any, .any, .any, .any, .any, .any, .any, .any, .any, .any, .any], [.ex false [.c (.os 1 0 0 7 t3.1 none)] 72, .ex false [.row t3.2.1 (.pair (.int .i64) (.pair (.int .i64) (.pair (.int .i64) (.pair .bool (.pair .bool (.pair .str (.int .i64))))))) t66] 30, (halterlaw19_FileCounts.c0 t10)], 0⟩) (fun t66 => (.adj [.drop 0] .nil))))))))) (.sub ((List (Int × (Int × (Int × (Bool × (Bool × (ByteArray × Int)))))))) (fun _ => .ret) (fun t68 => ⟨[.any, .any, .any, .any, .v (.one (.sc (.bool false))), .any, .any, .any, .any, .any, .any, .any, .any, .any, .any, .any, .any, .any, .any, .any, .any, .any, .any, .any, .any, .any, .any, .any, .any, .any, .any, .any, .any, .any, .any, .any, .any, .any, .any, .any, .any, .any, .any, .any, .any, .any, .any, .any, .any, .any, .any, .any, .any, .any, .any, .any, .any, .any, .any, .any, .any, .any, .any, .any, .any, .any, .any, .any, .any, .any, .any, .any, .any, .any, .any, .any, .any, .any, .any, .any, .any, .any, .any, .any, .any, .any, .any, .any, .any, .any, .any, .any, .any, .any, .any, .any, .any, .any, .any, .any, .any, .any, .any, .any, .any, .any, .any, .any, .any, .any, .any, .any, .any, .any, .any, .any, .any, .any, .any, .any, .any, .any, .any, .any, .any, .any, .any, .any, .any, .any, .any, .any, .any, .any, .any, .any, .any, .any, .any, .any, .any, .any, .any, .any, .any, .any, .any, .any, .any, .any, .any, .any, .any], [.ex false [.c (.os 1 0 0 7 t3.1 none)] 72, .ex false [.row t3.2.1 (.pair (.int .i64) (.pair (.int .i64) (.pair (.int .i64) (.pair .bool (.pair .bool (.pair .str (.int .i64))))))) t68] 30, (halterlaw19_FileCounts.c0 t10)], 0⟩) (fun t68 => (.adj [.drop 0] .nil)))))))))) (.callR true [] [0, 1] (TY0) (fun t70 => (file_Table_Get.R t70)) (fun t70 => (file_Table_Get.B t5.1 t3.1 t3.2.1 (z2 t5) t70)) (fun t70 => (.adj [] (.adj [] (.adj [] (.adj [.keep [5, 11, 12, 13, 14, 15, 16]] (.alt (.sub ((List (Int × (Int × (Int × (Bool × (Bool × (ByteArray × Int)))))))) (fun _ => (.exit 0)) (fun t88 => ⟨[.any, .any, .any, .any, .any, .v (.one (.ptr 0 ⟨0, 0, 0, 0⟩)), .any, .any, .any, .any, .any, .v (.one (.sc (.int .i64 t4.1))), .v (.one (.sc (.int .i64 t5.1))), .v (.one (.ptr 2 ⟨0, 0, 0, 0⟩)), .v (.one (.err (z7 t70))), .v (.one (.sc (.int .i64 (IntKind.wrap .i64 ((Int.tmod (IntKind.wrap .u64 (a0)) (40 : Int))))))), .any, .any, .any, .any, .any, .any, .any, .any, .any, .any, .any, .any, .any, .any, .any, .any, .any, .any, .any, .any, .any, .any, .any, .any, .any, .any, .any, .any, .any, .any, .any, .any, .any, .any, .any, .any, .any, .any, .any, .any, .any, .any, .any, .any, .any, .any, .any, .any, .any, .any, .any, .any, .any, .any, .any, .any, .any, .any, .any, .any, .any, .any, .any, .any, .any, .any, .any, .any, .any, .any, .any, .any, .any, .any, .any, .any, .any, .any, .any, .any, .any, .any, .any, .any, .any, .any, .any, .any, .any, .any, .any, .any, .any, .any, .any, .any, .any, .any, .any, .any, .any, .any, .any, .any, .any, .any, .any, .any, .any, .any, .any, .any, .any, .any, .any, .any, .any, .any, .any, .any, .any, .any, .any, .any, .any, .any, .any, .any, .any, .any, .any, .any, .any, .any, .any, .any, .any], [.ex false [.c (.os 1 0 0 7 t3.1 none)] 72, .ex false [.row t3.2.1 (.pair (.int .i64) (.pair (.int .i64) (.pair (.int .i64) (.pair .bool (.pair .bool (.pair .str (.int .i64))))))) t88] 30, (halterlaw19_FileCounts.c1 t70)], 0⟩) (fun t88 => (.adj [] (.adj [] (.adj [.keep [5, 11, 12, 13, 14, 15, 17]] (.alt (.sub ((List (Int × (Int × (Int × (Bool × (Bool × (ByteArray × Int)))))))) (fun _ => (.exit 2)) (fun t113 => ⟨[.any, .any, .any, .any, .any, .v (.one (.ptr 0 ⟨0, 0, 0, 0⟩)), .any, .any, .any, .any, .any, .v (.one (.sc (.int .i64 t4.1))), .v (.one (.sc (.int .i64 t5.1))), .v (.one (.ptr 2 ⟨0, 0, 0, 0⟩)), .v (.one (.err (z7 t70))), .any, .any, .any, .any, .any, .any, .any, .any, .any, .any, .any, .any, .any, .any, .any, .any, .any, .any, .any, .any, .any, .any, .any, .any, .any, .any, .any, .any, .any, .any, .any, .any, .any, .any, .any, .any, .any, .any, .any, .any, .any, .any, .any, .any, .any, .any, .any, .any, .any, .any, .any, .any, .any, .any, .any, .any, .any, .any, .any, .any, .any, .any, .any, .any, .any, .any, .any, .any, .any, .any, .any, .any, .any, .any, .any, .any, .any, .any, .any, .any, .any, .any, .any, .any, .any, .any, .any, .any, .any, .any, .any, .any, .any, .any, .any, .any, .any, .any, .any, .any, .any, .any, .any, .any, .any, .any, .any, .any, .any, .any, .any, .any, .any, .any, .any, .any, .any, .any, .any, .any, .any, .any, .any, .any, .any, .any, .any, .any, .any, .any, .any, .any, .any, .any, .any, .any, .any, .any], [.ex false [.c (.os 1 0 0 7 t3.1 none)] 72, .ex false [.row t3.2.1 (.pair (.int .i64) (.pair (.int .i64) (.pair (.int .i64) (.pair .bool (.pair .bool (.pair .str (.int .i64))))))) t113] 30, (halterlaw19_FileCounts.c1 t70)], 0⟩) (fun t113 => (.callR true [] [0, 1] (Int × Int × Int × Bool × Bool × ByteArray × Int × Bool × (Option Int) × (List (Int × (Int × (Int × (Bool × (Bool × (ByteArray × Int)))))))) (fun t115 => (file_Table_Unref.R t115)) (fun t115 => (file_Table_Unref.B t4.1 t3.1 t3.2.1 t113 t115)) (fun t115 => (.callR true [] [0, 1] (TY0) (fun t116 => (file_Table_Get.R t116)) (fun t116 => (file_Table_Get.B t5.1 t3.1 t3.2.1 (z9 t115) t116)) (fun t116 => (.br (.one true (.call true [] (Int) (fun t118 => num.R t118) (fun t118 => (.one true (.one true (.br (.one true (.one true (.br (.one true (.one true (.one true (.br (.one true (.callR true [] [0, 1] ((List Int)) (fun t122 => (file_Table_List.R t122)) (fun t122 => (file_Table_List.B t3.1 t3.2.1 (z9 t115) t122)) (fun t122 => (.one true (.one true (.one true (.call true [] (Bool) (fun t123 => halterlaw19_ints.R t123) (fun t123 => (.one true (.br (.call true [] (Bool) (fun t125 => halterlaw19_sure.R t125) (fun t125 => (.one true (.adj [] (.adj [.drop 0] .nil))))) (.one false (.adj [] (.adj [.drop 0] .nil))))))))))))) (.one false (.one false (.one false (.one false (.one false (.one false (.one false (.adj [] (.adj [.drop 0] .nil))))))))))))) (.one false (.one false (.one false (.one false (.one false (.one false (.one false (.one false (.one false (.one false (.one false (.adj [] (.adj [.drop 0] .nil)))))))))))))))) (.one false (.one false (.one false (.one false (.one false (.one false (.one false (.one false (.one false (.one false (.one false (.one false (.one false (.one false (.adj [] (.adj [.drop 0] .nil)))))))))))))))))))))) (.one false (.one false (.one false (.one false (.one false (.one false (.one false (.one false (.one false (.one false (.one false (.one false (.one false (.one false (.one false (.one false (.one false (.one false (.adj [] (.adj [.drop 0] .nil))))))))))))))))))))))))))) (.sub ((List (Int × (Int × (Int × (Bool × (Bool × (ByteArray × Int)))))))) (fun _ => .ret) (fun t126 => ⟨[.any, .any, .any, .any, .v (.one (.sc (.bool false))), .any, .any, .any, .any, .any, .any, .any, .any, .any, .any, .any, .any, .any, .any, .any, .any, .any, .any, .any, .any, .any, .any, .any, .any, .any, .any, .any, .any, .any, .any, .any, .any, .any, .any, .any, .any, .any, .any, .any, .any, .any, .any, .any, .any, .any, .any, .any, .any, .any, .any, .any, .any, .any, .any, .any, .any, .any, .any, .any, .any, .any, .any, .any, .any, .any, .any, .any, .any, .any, .any, .any, .any, .any, .any, .any, .any, .any, .any, .any, .any, .any, .any, .any, .any, .any, .any, .any, .any, .any, .any, .any, .any, .any, .any, .any, .any, .any, .any, .any, .any, .any, .any, .any, .any, .any, .any, .any, .any, .any, .any, .any, .any, .any, .any, .any, .any, .any, .any, .any, .any, .any, .any, .any, .any, .any, .any, .any, .any, .any, .any, .any, .any, .any, .any, .any, .any, .any, .any, .any, .any, .any, .any, .any, .any, .any, .any, .any, .any], [.ex false [.c (.os 1 0 0 7 t3.1 none)] 72, .ex false [.row t3.2.1 (.pair (.int .i64) (.pair (.int .i64) (.pair (.int .i64) (.pair .bool (.pair .bool (.pair .str (.int .i64))))))) t126] 30, (halterlaw19_FileCounts.c1 t70)], 0⟩) (fun t126 => (.adj [.drop 0] .nil))))))))) (.sub ((List (Int × (Int × (Int × (Bool × (Bool × (ByteArray × Int)))))))) (fun _ => .ret) (fun t128 => ⟨[.any, .any, .any, .any, .v (.one (.sc (.bool false))), .any, .any, .any, .any, .any, .any, .any, .any, .any, .any, .any, .any, .any, .any, .any, .any, .any, .any, .any, .any, .any, .any, .any, .any, .any, .any, .any, .any, .any, .any, .any, .any, .any, .any, .any, .any, .any, .any, .any, .any, .any, .any, .any, .any, .any, .any, .any, .any, .any, .any, .any, .any, .any, .any, .any, .any, .any, .any, .any, .any, .any, .any, .any, .any, .any, .any, .any, .any, .any, .any, .any, .any, .any, .any, .any, .any, .any, .any, .any, .any, .any, .any, .any, .any, .any, .any, .any, .any, .any, .any, .any, .any, .any, .any, .any, .any, .any, .any, .any, .any, .any, .any, .any, .any, .any, .any, .any, .any, .any, .any, .any, .any, .any, .any, .any, .any, .any, .any, .any, .any, .any, .any, .any, .any, .any, .any, .any, .any, .any, .any, .any, .any, .any, .any, .any, .any, .any, .any, .any, .any, .any, .any, .any, .any, .any, .any, .any, .any], [.ex false [.c (.os 1 0 0 7 t3.1 none)] 72, .ex false [.row t3.2.1 (.pair (.int .i64) (.pair (.int .i64) (.pair (.int .i64) (.pair .bool (.pair .bool (.pair .str (.int .i64))))))) t128] 30, (halterlaw19_FileCounts.c1 t70)], 0⟩) (fun t128 => (.adj [.drop 0] .nil))))))))))))))))))))))))))))))) (to_goal (q := ((∃ t2 : Int, (Fun cfg 10 [.one (.sc (.int .i64 (3 : Int)))] [] (file_New.R (.inl t2)) (file_New.B (3 : Int) (.inl t2)) ∧ True) ∧ (True) ∧ (true = true ∧ (true = true ∧ (true = true ∧ (true = true ∧ (True ∧ (True ∧ ((True) ∧ (True) ∧ (.v (.one (.sc (.bool false))) : Tm) = halterlaw19_FileCounts.R r ∧ ([] : List Box) = [])))))))) ∨ (∃ t3 : Nat × Nat × (List (Int × (Int × (Int × (Bool × (Bool × (ByteArray × Int))))))), (Fun cfg 10 [.one (.sc (.int .i64 (3 : Int)))] [] (file_New.R (.inr t3)) (file_New.B (3 : Int) (.inr t3)) ∧ True) ∧ (True) ∧ (false = false ∧ (false = false ∧ (True) ∧ (false = false ∧ (false = false ∧ (∃ t4 : Int × (Option Int) × (List (Int × (Int × (Int × (Bool × (Bool × (ByteArray × Int))))))), (Fun cfg 11 [.one (.ptr 0 ⟨0, 0, 0, 0⟩), .agg [.c (.sc (.int .i64 (0 : Int))), .c (.sc (.int .i64 (1 : Int))), .c (.sc (.int .i64 (0 : Int))), .c (.sc (.bool false)), .c (.sc (.bool false)), .c (.sc (.string ByteArray.empty)), .c (.sc (.int .i64 (0 : Int)))]] [.ex false [.c (.os 1 0 0 7 t3.1 none)] 72, .ex false [.row t3.2.1 (.pair (.int .i64) (.pair (.int .i64) (.pair (.int .i64) (.pair .bool (.pair .bool (.pair .str (.int .i64))))))) (z2 t3)] 30] (file_Table_Open.R t4) (file_Table_Open.B (0 : Int) (1 : Int) (0 : Int) false false ByteArray.empty (0 : Int) t3.1 t3.2.1 (z2 t3) t4) ∧ True) ∧ (∃ t5 : Int × (Option Int) × (List (Int × (Int × (Int × (Bool × (Bool × (ByteArray × Int))))))), (Fun cfg 11 [.one (.ptr 0 ⟨0, 0, 0, 0⟩), .agg [.c (.sc (.int .i64 (2 : Int))), .c (.sc (.int .i64 (2 : Int))), .c (.sc (.int .i64 (0 : Int))), .c (.sc (.bool false)), .c (.sc (.bool false)), .c (.sc (.string ByteArray.empty)), .c (.sc (.int .i64 (0 : Int)))]] [.ex false [.c (.os 1 0 0 7 t3.1 none)] 72, .ex false [.row t3.2.1 (.pair (.int .i64) (.pair (.int .i64) (.pair (.int .i64) (.pair .bool (.pair .bool (.pair .str (.int .i64))))))) (z2 t4)] 30] (file_Table_Open.R t5) (file_Table_Open.B (2 : Int) (2 : Int) (0 : Int) false false ByteArray.empty (0 : Int) t3.1 t3.2.1 (z2 t4) t5) ∧ True) ∧ (True) ∧ (((!(Option.isNone t4.2.1)) = false → ((!(Option.isNone t4.2.1)) = false ∧ (True) ∧ ((!(Option.isNone t4.2.1)) = false ∧ (((!(Option.isNone t5.2.1)) = false → ((!(Option.isNone t5.2.1)) = false ∧ ((!(Option.isNone t5.2.1)) = false ∧ (True) ∧ ((!(Option.isNone t5.2.1)) = false ∧ (((t4.1 == t5.1) = true → (True ∧ (True ∧ ((True) ∧ ((True) ∧ True) ∧ (.v (.one (.sc (.bool false))) : Tm) = halterlaw19_FileCounts.R r ∧ ([] : List Box) = [])))) ∧ ((t4.1 == t5.1) = false → ((2 : Int) ≠ 0) ∧ (True) ∧ ((((Int.tmod a1 (2 : Int)) == (0 : Int)) = true → (∃ t10 : TY0, (Fun cfg 12 [.one (.ptr 0 ⟨0, 0, 0, 0⟩), .one (.sc (.int .i64 t4.1))] [.ex false [.c (.os 1 0 0 7 t3.1 none)] 72, .ex false [.row t3.2.1 (.pair (.int .i64) (.pair (.int .i64) (.pair (.int .i64) (.pair .bool (.pair .bool (.pair .str (.int .i64))))))) (z2 t5)] 30] (file_Table_Get.R t10) (file_Table_Get.B t4.1 t3.1 t3.2.1 (z2 t5) t10) ∧ True) ∧ (True) ∧ (True ∧ (True) ∧ ((40 : Int) ≠ 0) ∧ (True) ∧ (True ∧ (True ∧ (((True) ∧ True) ∧ ((∃ t28 : (List (Int × (Int × (Int × (Bool × (Bool × (ByteArray × Int))))))), Trip cfg (.loop (cpath (Tryd.f4.body.getD .skip) [1, 1, 1, 1, 1, 1, 1, 1, 1, 1, 0, 1, 0, 0])) ⟨[.any, .any, .any, .any, .any, .v (.one (.ptr 0 ⟨0, 0, 0, 0⟩)), .any, .any, .any, .any, .any, .v (.one (.sc (.int .i64 t5.1))), .v (.one (.sc (.int .i64 t4.1))), .v (.one (.ptr 2 ⟨0, 0, 0, 0⟩)), .v (.one (.err (z7 t10))), .v (.one (.sc (.int .i64 (IntKind.wrap .i64 ((Int.tmod (IntKind.wrap .u64 (a0)) (40 : Int))))))), .v (.one (.sc (.int .i64 (0 : Int)))), .any, .any, .any, .any, .any, .any, .any, .any, .any, .any, .any, .any, .any, .any, .any, .any, .any, .any, .any, .any, .any, .any, .any, .any, .any, .any, .any, .any, .any, .any, .any, .any, .any, .any, .any, .any, .any, .any, .any, .any, .any, .any, .any, .any, .any, .any, .any, .any, .any, .any, .any, .any, .any, .any, .any, .any, .any, .any, .any, .any, .any, .any, .any, .any, .any, .any, .any, .any, .any, .any, .any, .any, .any, .any, .any, .any, .any, .any, .any, .any, .any, .any, .any, .any, .any, .any, .any, .any, .any, .any, .any, .any, .any, .any, .any, .any, .any, .any, .any, .any, .any, .any, .any, .any, .any, .any, .any, .any, .any, .any, .any, .any, .any, .any, .any, .any, .any, .any, .any, .any, .any, .any, .any, .any, .any, .any, .any, .any, .any, .any, .any, .any, .any, .any, .any, .any], [.ex false [.c (.os 1 0 0 7 t3.1 none)] 72, .ex false [.row t3.2.1 (.pair (.int .i64) (.pair (.int .i64) (.pair (.int .i64) (.pair .bool (.pair .bool (.pair .str (.int .i64))))))) (z2 t5)] 30, (halterlaw19_FileCounts.c0 t10)], 0⟩ (fun e s => e = (.exit 0) ∧ s = ⟨[.any, .any, .any, .any, .any, .v (.one (.ptr 0 ⟨0, 0, 0, 0⟩)), .any, .any, .any, .any, .any, .v (.one (.sc (.int .i64 t5.1))), .v (.one (.sc (.int .i64 t4.1))), .v (.one (.ptr 2 ⟨0, 0, 0, 0⟩)), .v (.one (.err (z7 t10))), .v (.one (.sc (.int .i64 (IntKind.wrap .i64 ((Int.tmod (IntKind.wrap .u64 (a0)) (40 : Int))))))), .any, .any, .any, .any, .any, .any, .any, .any, .any, .any, .any, .any, .any, .any, .any, .any, .any, .any, .any, .any, .any, .any, .any, .any, .any, .any, .any, .any, .any, .any, .any, .any, .any, .any, .any, .any, .any, .any, .any, .any, .any, .any, .any, .any, .any, .any, .any, .any, .any, .any, .any, .any, .any, .any, .any, .any, .any, .any, .any, .any, .any, .any, .any, .any, .any, .any, .any, .any, .any, .any, .any, .any, .any, .any, .any, .any, .any, .any, .any, .any, .any, .any, .any, .any, .any, .any, .any, .any, .any, .any, .any, .any, .any, .any, .any, .any, .any, .any, .any, .any, .any, .any, .any, .any, .any, .any, .any, .any, .any, .any, .any, .any, .any, .any, .any, .any, .any, .any, .any, .any, .any, .any, .any, .any, .any, .any, .any, .any, .any, .any, .any, .any, .any, .any, .any, .any, .any], [.ex false [.c (.os 1 0 0 7 t3.1 none)] 72, .ex false [.row t3.2.1 (.pair (.int .i64) (.pair (.int .i64) (.pair (.int .i64) (.pair .bool (.pair .bool (.pair .str (.int .i64))))))) t28] 30, (halterlaw19_FileCounts.c0 t10)], 0⟩) ∧ (True ∧ (True ∧ (((True) ∧ True) ∧ ((∃ t53 : (List (Int × (Int × (Int × (Bool × (Bool × (ByteArray × Int))))))), Trip cfg (.loop (cpath (Tryd.f4.body.getD .skip) [1, 1, 1, 1, 1, 1, 1, 1, 1, 1, 1, 0, 1, 0, 0])) ⟨[.any, .any, .any, .any, .any, .v (.one (.ptr 0 ⟨0, 0, 0, 0⟩)), .any, .any, .any, .any, .any, .v (.one (.sc (.int .i64 t5.1))), .v (.one (.sc (.int .i64 t4.1))), .v (.one (.ptr 2 ⟨0, 0, 0, 0⟩)), .v (.one (.err (z7 t10))), .v (.one (.sc (.int .i64 (IntKind.wrap .i64 ((Int.tmod (IntKind.wrap .u64 (a0)) (40 : Int))))))), .any, .v (.one (.sc (.int .i64 (0 : Int)))), .any, .any, .any, .any, .any, .any, .any, .any, .any, .any, .any, .any, .any, .any, .any, .any, .any, .any, .any, .any, .any, .any, .any, .any, .any, .any, .any, .any, .any, .any, .any, .any, .any, .any, .any, .any, .any, .any, .any, .any, .any, .any, .any, .any, .any, .any, .any, .any, .any, .any, .any, .any, .any, .any, .any, .any, .any, .any, .any, .any, .any, .any, .any, .any, .any, .any, .any, .any, .any, .any, .any, .any, .any, .any, .any, .any, .any, .any, .any, .any, .any, .any, .any, .any, .any, .any, .any, .any, .any, .any, .any, .any, .any, .any, .any, .any, .any, .any, .any, .any, .any, .any, .any, .any, .any, .any, .any, .any, .any, .any, .any, .any, .any, .any, .any, .any, .any, .any, .any, .any, .any, .any, .any, .any, .any, .any, .any, .any, .any, .any, .any, .any, .any, .any, .any], [.ex false [.c (.os 1 0 0 7 t3.1 none)] 72, .ex false [.row t3.2.1 (.pair (.int .i64) (.pair (.int .i64) (.pair (.int .i64) (.pair .bool (.pair .bool (.pair .str (.int .i64))))))) t28] 30, (halterlaw19_FileCounts.c0 t10)], 0⟩ (fun e s => e = (.exit 2) ∧ s = ⟨[.any, .any, .any, .any, .any, .v (.one (.ptr 0 ⟨0, 0, 0, 0⟩)), .any, .any, .any, .any, .any, .v (.one (.sc (.int .i64 t5.1))), .v (.one (.sc (.int .i64 t4.1))), .v (.one (.ptr 2 ⟨0, 0, 0, 0⟩)), .v (.one (.err (z7 t10))), .any, .any, .any, .any, .any, .any, .any, .any, .any, .any, .any, .any, .any, .any, .any, .any, .any, .any, .any, .any, .any, .any, .any, .any, .any, .any, .any, .any, .any, .any, .any, .any, .any, .any, .any, .any, .any, .any, .any, .any, .any, .any, .any, .any, .any, .any, .any, .any, .any, .any, .any, .any, .any, .any, .any, .any, .any, .any, .any, .any, .any, .any, .any, .any, .any, .any, .any, .any, .any, .any, .any, .any, .any, .any, .any, .any, .any, .any, .any, .any, .any, .any, .any, .any, .any, .any, .any, .any, .any, .any, .any, .any, .any, .any, .any, .any, .any, .any, .any, .any, .any, .any, .any, .any, .any, .any, .any, .any, .any, .any, .any, .any, .any, .any, .any, .any, .any, .any, .any, .any, .any, .any, .any, .any, .any, .any, .any, .any, .any, .any, .any, .any, .any, .any, .any, .any, .any, .any], [.ex false [.c (.os 1 0 0 7 t3.1 none)] 72, .ex false [.row t3.2.1 (.pair (.int .i64) (.pair (.int .i64) (.pair (.int .i64) (.pair .bool (.pair .bool (.pair .str (.int .i64))))))) t53] 30, (halterlaw19_FileCounts.c0 t10)], 0⟩) ∧ (∃ t55 : Int × Int × Int × Bool × Bool × ByteArray × Int × Bool × (Option Int) × (List (Int × (Int × (Int × (Bool × (Bool × (ByteArray × Int))))))), (Fun cfg 14 [.one (.ptr 0 ⟨0, 0, 0, 0⟩), .one (.sc (.int .i64 t5.1))] [.ex false [.c (.os 1 0 0 7 t3.1 none)] 72, .ex false [.row t3.2.1 (.pair (.int .i64) (.pair (.int .i64) (.pair (.int .i64) (.pair .bool (.pair .bool (.pair .str (.int .i64))))))) t53] 30] (file_Table_Unref.R t55) (file_Table_Unref.B t5.1 t3.1 t3.2.1 t53 t55) ∧ True) ∧ (True) ∧ (∃ t56 : TY0, (Fun cfg 12 [.one (.ptr 0 ⟨0, 0, 0, 0⟩), .one (.sc (.int .i64 t4.1))] [.ex false [.c (.os 1 0 0 7 t3.1 none)] 72, .ex false [.row t3.2.1 (.pair (.int .i64) (.pair (.int .i64) (.pair (.int .i64) (.pair .bool (.pair .bool (.pair .str (.int .i64))))))) (z9 t55)] 30] (file_Table_Get.R t56) (file_Table_Get.B t4.1 t3.1 t3.2.1 (z9 t55) t56) ∧ True) ∧ (True) ∧ (True) ∧ (((Option.isNone (z7 t10)) = true → ((Option.isNone (z7 t10)) = true ∧ (∃ t58 : Int, (Fun cfg 9 [.one (.err (p8 t55))] [] (num.R t58) [] ∧ True) ∧ ((Option.isNone (z7 t10)) = true ∧ (True) ∧ ((Option.isNone (z7 t10)) = true ∧ (((t58 == (9 : Int)) = true → ((t58 == (9 : Int)) = true ∧ (True) ∧ ((t58 == (9 : Int)) = true ∧ (((Option.isNone (z7 t56)) = true → (True) ∧ ((Option.isNone (z7 t56)) = true ∧ (True) ∧ ((Option.isNone (z7 t56)) = true ∧ (True) ∧ ((Option.isNone (z7 t56)) = true ∧ (((halterlaw19_FileCounts.c3 t56 t10) = true → ((halterlaw19_FileCounts.c3 t56 t10) = true ∧ (∃ t62 : (List Int), (Fun cfg 16 [.one (.ptr 0 ⟨0, 0, 0, 0⟩)] [.ex false [.c (.os 1 0 0 7 t3.1 none)] 72, .ex false [.row t3.2.1 (.pair (.int .i64) (.pair (.int .i64) (.pair (.int .i64) (.pair .bool (.pair .bool (.pair .str (.int .i64))))))) (z9 t55)] 30] (file_Table_List.R t62) (file_Table_List.B t3.1 t3.2.1 (z9 t55) t62) ∧ True) ∧ ((halterlaw19_FileCounts.c3 t56 t10) = true ∧ ((halterlaw19_FileCounts.c3 t56 t10) = true ∧ ((halterlaw19_FileCounts.c3 t56 t10) = true ∧ (∃ t63 : Bool, ((0 = 0 ∧ 1 = 1) ∧ Fun cfg 15 [.one (.fs (.int .i64) t62 false), .one (.fs (.int .i64) [t4.1] false)] [] (halterlaw19_ints.R t63) [] ∧ True) ∧ ((halterlaw19_FileCounts.c3 t56 t10) = true ∧ ((t63 = true → (∃ t65 : Bool, (Fun cfg 6 [] [] (halterlaw19_sure.R t65) [] ∧ True) ∧ (t63 = true ∧ (True ∧ ((True) ∧ ((True) ∧ True) ∧ (.v (.one (.sc (.bool t65))) : Tm) = halterlaw19_FileCounts.R r ∧ ([] : List Box) = []))))) ∧ (t63 = false → (t63 = false ∧ (True ∧ ((True) ∧ ((True) ∧ True) ∧ (.v (.one (.sc (.bool false))) : Tm) = halterlaw19_FileCounts.R r ∧ ([] : List Box) = []))))))))))))) ∧ ((halterlaw19_FileCounts.c3 t56 t10) = false → ((halterlaw19_FileCounts.c3 t56 t10) = false ∧ ((halterlaw19_FileCounts.c3 t56 t10) = false ∧ ((halterlaw19_FileCounts.c3 t56 t10) = false ∧ ((halterlaw19_FileCounts.c3 t56 t10) = false ∧ ((halterlaw19_FileCounts.c3 t56 t10) = false ∧ (false = false ∧ (false = false ∧ (True ∧ ((True) ∧ ((True) ∧ True) ∧ (.v (.one (.sc (.bool false))) : Tm) = halterlaw19_FileCounts.R r ∧ ([] : List Box) = []))))))))))))))) ∧ ((Option.isNone (z7 t56)) = false → ((Option.isNone (z7 t56)) = false ∧ ((Option.isNone (z7 t56)) = false ∧ ((Option.isNone (z7 t56)) = false ∧ (false = false ∧ (false = false ∧ (false = false ∧ (false = false ∧ (false = false ∧ (false = false ∧ (false = false ∧ (false = false ∧ (True ∧ ((True) ∧ ((True) ∧ True) ∧ (.v (.one (.sc (.bool false))) : Tm) = halterlaw19_FileCounts.R r ∧ ([] : List Box) = [])))))))))))))))))) ∧ ((t58 == (9 : Int)) = false → ((t58 == (9 : Int)) = false ∧ ((t58 == (9 : Int)) = false ∧ (false = false ∧ (false = false ∧ (false = false ∧ (false = false ∧ (false = false ∧ (false = false ∧ (false = false ∧ (false = false ∧ (false = false ∧ (false = false ∧ (false = false ∧ (false = false ∧ (True ∧ ((True) ∧ ((True) ∧ True) ∧ (.v (.one (.sc (.bool false))) : Tm) = halterlaw19_FileCounts.R r ∧ ([] : List Box) = []))))))))))))))))))))))) ∧ ((Option.isNone (z7 t10)) = false → ((Option.isNone (z7 t10)) = false ∧ ((Option.isNone (z7 t10)) = false ∧ ((Option.isNone (z7 t10)) = false ∧ (false = false ∧ (false = false ∧ (false = false ∧ (false = false ∧ (false = false ∧ (false = false ∧ (false = false ∧ (false = false ∧ (false = false ∧ (false = false ∧ (false = false ∧ (false = false ∧ (false = false ∧ (false = false ∧ (false = false ∧ (True ∧ ((True) ∧ ((True) ∧ True) ∧ (.v (.one (.sc (.bool false))) : Tm) = halterlaw19_FileCounts.R r ∧ ([] : List Box) = []))))))))))))))))))))))))) ∨ (∃ t66 : (List (Int × (Int × (Int × (Bool × (Bool × (ByteArray × Int))))))), Trip cfg (.loop (cpath (Tryd.f4.body.getD .skip) [1, 1, 1, 1, 1, 1, 1, 1, 1, 1, 1, 0, 1, 0, 0])) ⟨[.any, .any, .any, .any, .any, .v (.one (.ptr 0 ⟨0, 0, 0, 0⟩)), .any, .any, .any, .any, .any, .v (.one (.sc (.int .i64 t5.1))), .v (.one (.sc (.int .i64 t4.1))), .v (.one (.ptr 2 ⟨0, 0, 0, 0⟩)), .v (.one (.err (z7 t10))), .v (.one (.sc (.int .i64 (IntKind.wrap .i64 ((Int.tmod (IntKind.wrap .u64 (a0)) (40 : Int))))))), .any, .v (.one (.sc (.int .i64 (0 : Int)))), .any, .any, .any, .any, .any, .any, .any, .any, .any, .any, .any, .any, .any, .any, .any, .any, .any, .any, .any, .any, .any, .any, .any, .any, .any, .any, .any, .any, .any, .any, .any, .any, .any, .any, .any, .any, .any, .any, .any, .any, .any, .any, .any, .any, .any, .any, .any, .any, .any, .any, .any, .any, .any, .any, .any, .any, .any, .any, .any, .any, .any, .any, .any, .any, .any, .any, .any, .any, .any, .any, .any, .any, .any, .any, .any, .any, .any, .any, .any, .any, .any, .any, .any, .any, .any, .any, .any, .any, .any, .any, .any, .any, .any, .any, .any, .any, .any, .any, .any, .any, .any, .any, .any, .any, .any, .any, .any, .any, .any, .any, .any, .any, .any, .any, .any, .any, .any, .any, .any, .any, .any, .any, .any, .any, .any, .any, .any, .any, .any, .any, .any, .any, .any, .any, .any], [.ex false [.c (.os 1 0 0 7 t3.1 none)] 72, .ex false [.row t3.2.1 (.pair (.int .i64) (.pair (.int .i64) (.pair (.int .i64) (.pair .bool (.pair .bool (.pair .str (.int .i64))))))) t28] 30, (halterlaw19_FileCounts.c0 t10)], 0⟩ (fun e s => e = .ret ∧ s = ⟨[.any, .any, .any, .any, .v (.one (.sc (.bool false))), .any, .any, .any, .any, .any, .any, .any, .any, .any, .any, .any, .any, .any, .any, .any, .any, .any, .any, .any, .any, .any, .any, .any, .any, .any, .any, .any, .any, .any, .any, .any, .any, .any, .any, .any, .any, .any, .any, .any, .any, .any, .any, .any, .any, .any, .any, .any, .any, .any, .any, .any, .any, .any, .any, .any, .any, .any, .any, .any, .any, .any, .any, .any, .any, .any, .any, .any, .any, .any, .any, .any, .any, .any, .any, .any, .any, .any, .any, .any, .any, .any, .any, .any, .any, .any, .any, .any, .any, .any, .any, .any, .any, .any, .any, .any, .any, .any, .any, .any, .any, .any, .any, .any, .any, .any, .any, .any, .any, .any, .any, .any, .any, .any, .any, .any, .any, .any, .any, .any, .any, .any, .any, .any, .any, .any, .any, .any, .any, .any, .any, .any, .any, .any, .any, .any, .any, .any, .any, .any, .any, .any, .any, .any, .any, .any, .any, .any, .any], [.ex false [.c (.os 1 0 0 7 t3.1 none)] 72, .ex false [.row t3.2.1 (.pair (.int .i64) (.pair (.int .i64) (.pair (.int .i64) (.pair .bool (.pair .bool (.pair .str (.int .i64))))))) t66] 30, (halterlaw19_FileCounts.c0 t10)], 0⟩) ∧ ((True) ∧ ((True) ∧ True) ∧ (.v (.one (.sc (.bool false))) : Tm) = halterlaw19_FileCounts.R r ∧ ([] : List Box) = []))))))) ∨ (∃ t68 : (List (Int × (Int × (Int × (Bool × (Bool × (ByteArray × Int))))))), Trip cfg (.loop (cpath (Tryd.f4.body.getD .skip) [1, 1, 1, 1, 1, 1, 1, 1, 1, 1, 0, 1, 0, 0])) ⟨[.any, .any, .any, .any, .any, .v (.one (.ptr 0 ⟨0, 0, 0, 0⟩)), .any, .any, .any, .any, .any, .v (.one (.sc (.int .i64 t5.1))), .v (.one (.sc (.int .i64 t4.1))), .v (.one (.ptr 2 ⟨0, 0, 0, 0⟩)), .v (.one (.err (z7 t10))), .v (.one (.sc (.int .i64 (IntKind.wrap .i64 ((Int.tmod (IntKind.wrap .u64 (a0)) (40 : Int))))))), .v (.one (.sc (.int .i64 (0 : Int)))), .any, .any, .any, .any, .any, .any, .any, .any, .any, .any, .any, .any, .any, .any, .any, .any, .any, .any, .any, .any, .any, .any, .any, .any, .any, .any, .any, .any, .any, .any, .any, .any, .any, .any, .any, .any, .any, .any, .any, .any, .any, .any, .any, .any, .any, .any, .any, .any, .any, .any, .any, .any, .any, .any, .any, .any, .any, .any, .any, .any, .any, .any, .any, .any, .any, .any, .any, .any, .any, .any, .any, .any, .any, .any, .any, .any, .any, .any, .any, .any, .any, .any, .any, .any, .any, .any, .any, .any, .any, .any, .any, .any, .any, .any, .any, .any, .any, .any, .any, .any, .any, .any, .any, .any, .any, .any, .any, .any, .any, .any, .any, .any, .any, .any, .any, .any, .any, .any, .any, .any, .any, .any, .any, .any, .any, .any, .any, .any, .any, .any, .any, .any, .any, .any, .any, .any], [.ex false [.c (.os 1 0 0 7 t3.1 none)] 72, .ex false [.row t3.2.1 (.pair (.int .i64) (.pair (.int .i64) (.pair (.int .i64) (.pair .bool (.pair .bool (.pair .str (.int .i64))))))) (z2 t5)] 30, (halterlaw19_FileCounts.c0 t10)], 0⟩ (fun e s => e = .ret ∧ s = ⟨[.any, .any, .any, .any, .v (.one (.sc (.bool false))), .any, .any, .any, .any, .any, .any, .any, .any, .any, .any, .any, .any, .any, .any, .any, .any, .any, .any, .any, .any, .any, .any, .any, .any, .any, .any, .any, .any, .any, .any, .any, .any, .any, .any, .any, .any, .any, .any, .any, .any, .any, .any, .any, .any, .any, .any, .any, .any, .any, .any, .any, .any, .any, .any, .any, .any, .any, .any, .any, .any, .any, .any, .any, .any, .any, .any, .any, .any, .any, .any, .any, .any, .any, .any, .any, .any, .any, .any, .any, .any, .any, .any, .any, .any, .any, .any, .any, .any, .any, .any, .any, .any, .any, .any, .any, .any, .any, .any, .any, .any, .any, .any, .any, .any, .any, .any, .any, .any, .any, .any, .any, .any, .any, .any, .any, .any, .any, .any, .any, .any, .any, .any, .any, .any, .any, .any, .any, .any, .any, .any, .any, .any, .any, .any, .any, .any, .any, .any, .any, .any, .any, .any, .any, .any, .any, .any, .any, .any], [.ex false [.c (.os 1 0 0 7 t3.1 none)] 72, .ex false [.row t3.2.1 (.pair (.int .i64) (.pair (.int .i64) (.pair (.int .i64) (.pair .bool (.pair .bool (.pair .str (.int .i64))))))) t68] 30, (halterlaw19_FileCounts.c0 t10)], 0⟩) ∧ ((True) ∧ ((True) ∧ True) ∧ (.v (.one (.sc (.bool false))) : Tm) = halterlaw19_FileCounts.R r ∧ ([] : List Box) = []))))))))) ∧ (((Int.tmod a1 (2 : Int)) == (0 : Int)) = false → (∃ t70 : TY0, (Fun cfg 12 [.one (.ptr 0 ⟨0, 0, 0, 0⟩), .one (.sc (.int .i64 t5.1))] [.ex false [.c (.os 1 0 0 7 t3.1 none)] 72, .ex false [.row t3.2.1 (.pair (.int .i64) (.pair (.int .i64) (.pair (.int .i64) (.pair .bool (.pair .bool (.pair .str (.int .i64))))))) (z2 t5)] 30] (file_Table_Get.R t70) (file_Table_Get.B t5.1 t3.1 t3.2.1 (z2 t5) t70) ∧ True) ∧ (True) ∧ (True ∧ (True) ∧ ((40 : Int) ≠ 0) ∧ (True) ∧ (True ∧ (True ∧ (((True) ∧ True) ∧ ((∃ t88 : (List (Int × (Int × (Int × (Bool × (Bool × (ByteArray × Int))))))), Trip cfg (.loop (cpath (Tryd.f4.body.getD .skip) [1, 1, 1, 1, 1, 1, 1, 1, 1, 1, 0, 1, 0, 0])) ⟨[.any, .any, .any, .any, .any, .v (.one (.ptr 0 ⟨0, 0, 0, 0⟩)), .any, .any, .any, .any, .any, .v (.one (.sc (.int .i64 t4.1))), .v (.one (.sc (.int .i64 t5.1))), .v (.one (.ptr 2 ⟨0, 0, 0, 0⟩)), .v (.one (.err (z7 t70))), .v (.one (.sc (.int .i64 (IntKind.wrap .i64 ((Int.tmod (IntKind.wrap .u64 (a0)) (40 : Int))))))), .v (.one (.sc (.int .i64 (0 : Int)))), .any, .any, .any, .any, .any, .any, .any, .any, .any, .any, .any, .any, .any, .any, .any, .any, .any, .any, .any, .any, .any, .any, .any, .any, .any, .any, .any, .any, .any, .any, .any, .any, .any, .any, .any, .any, .any, .any, .any, .any, .any, .any, .any, .any, .any, .any, .any, .any, .any, .any, .any, .any, .any, .any, .any, .any, .any, .any, .any, .any, .any, .any, .any, .any, .any, .any, .any, .any, .any, .any, .any, .any, .any, .any, .any, .any, .any, .any, .any, .any, .any, .any, .any, .any, .any, .any, .any, .any, .any, .any, .any, .any, .any, .any, .any, .any, .any, .any, .any, .any, .any, .any, .any, .any, .any, .any, .any, .any, .any, .any, .any, .any, .any, .any, .any, .any, .any, .any, .any, .any, .any, .any, .any, .any, .any, .any, .any, .any, .any, .any, .any, .any, .any, .any, .any, .any], [.ex false [.c (.os 1 0 0 7 t3.1 none)] 72, .ex false [.row t3.2.1 (.pair (.int .i64) (.pair (.int .i64) (.pair (.int .i64) (.pair .bool (.pair .bool (.pair .str (.int .i64))))))) (z2 t5)] 30, (halterlaw19_FileCounts.c1 t70)], 0⟩ (fun e s => e = (.exit 0) ∧ s = ⟨[.any, .any, .any, .any, .any, .v (.one (.ptr 0 ⟨0, 0, 0, 0⟩)), .any, .any, .any, .any, .any, .v (.one (.sc (.int .i64 t4.1))), .v (.one (.sc (.int .i64 t5.1))), .v (.one (.ptr 2 ⟨0, 0, 0, 0⟩)), .v (.one (.err (z7 t70))), .v (.one (.sc (.int .i64 (IntKind.wrap .i64 ((Int.tmod (IntKind.wrap .u64 (a0)) (40 : Int))))))), .any, .any, .any, .any, .any, .any, .any, .any, .any, .any, .any, .any, .any, .any, .any, .any, .any, .any, .any, .any, .any, .any, .any, .any, .any, .any, .any, .any, .any, .any, .any, .any, .any, .any, .any, .any, .any, .any, .any, .any, .any, .any, .any, .any, .any, .any, .any, .any, .any, .any, .any, .any, .any, .any, .any, .any, .any, .any, .any, .any, .any, .any, .any, .any, .any, .any, .any, .any, .any, .any, .any, .any, .any, .any, .any, .any, .any, .any, .any, .any, .any, .any, .any, .any, .any, .any, .any, .any, .any, .any, .any, .any, .any, .any, .any, .any, .any, .any, .any, .any, .any, .any, .any, .any, .any, .any, .any, .any, .any, .any, .any, .any, .any, .any, .any, .any, .any, .any, .any, .any, .any, .any, .any, .any, .any, .any, .any, .any, .any, .any, .any, .any, .any, .any, .any, .any, .any], [.ex false [.c (.os 1 0 0 7 t3.1 none)] 72, .ex false [.row t3.2.1 (.pair (.int .i64) (.pair (.int .i64) (.pair (.int .i64) (.pair .bool (.pair .bool (.pair .str (.int .i64))))))) t88] 30, (halterlaw19_FileCounts.c1 t70)], 0⟩) ∧ (True ∧ (True ∧ (((True) ∧ True) ∧ ((∃ t113 : (List (Int × (Int × (Int × (Bool × (Bool × (ByteArray × Int))))))), Trip cfg (.loop (cpath (Tryd.f4.body.getD .skip) [1, 1, 1, 1, 1, 1, 1, 1, 1, 1, 1, 0, 1, 0, 0])) ⟨[.any, .any, .any, .any, .any, .v (.one (.ptr 0 ⟨0, 0, 0, 0⟩)), .any, .any, .any, .any, .any, .v (.one (.sc (.int .i64 t4.1))), .v (.one (.sc (.int .i64 t5.1))), .v (.one (.ptr 2 ⟨0, 0, 0, 0⟩)), .v (.one (.err (z7 t70))), .v (.one (.sc (.int .i64 (IntKind.wrap .i64 ((Int.tmod (IntKind.wrap .u64 (a0)) (40 : Int))))))), .any, .v (.one (.sc (.int .i64 (0 : Int)))), .any, .any, .any, .any, .any, .any, .any, .any, .any, .any, .any, .any, .any, .any, .any, .any, .any, .any, .any, .any, .any, .any, .any, .any, .any, .any, .any, .any, .any, .any, .any, .any, .any, .any, .any, .any, .any, .any, .any, .any, .any, .any, .any, .any, .any, .any, .any, .any, .any, .any, .any, .any, .any, .any, .any, .any, .any, .any, .any, .any, .any, .any, .any, .any, .any, .any, .any, .any, .any, .any, .any, .any, .any, .any, .any, .any, .any, .any, .any, .any, .any, .any, .any, .any, .any, .any, .any, .any, .any, .any, .any, .any, .any, .any, .any, .any, .any, .any, .any, .any, .any, .any, .any, .any, .any, .any, .any, .any, .any, .any, .any, .any, .any, .any, .any, .any, .any, .any, .any, .any, .any, .any, .any, .any, .any, .any, .any, .any, .any, .any, .any, .any, .any, .any, .any], [.ex false [.c (.os 1 0 0 7 t3.1 none)] 72, .ex false [.row t3.2.1 (.pair (.int .i64) (.pair (.int .i64) (.pair (.int .i64) (.pair .bool (.pair .bool (.pair .str (.int .i64))))))) t88] 30, (halterlaw19_FileCounts.c1 t70)], 0⟩ (fun e s => e = (.exit 2) ∧ s = ⟨[.any, .any, .any, .any, .any, .v (.one (.ptr 0 ⟨0, 0, 0, 0⟩)), .any, .any, .any, .any, .any, .v (.one (.sc (.int .i64 t4.1))), .v (.one (.sc (.int .i64 t5.1))), .v (.one (.ptr 2 ⟨0, 0, 0, 0⟩)), .v (.one (.err (z7 t70))), .any, .any, .any, .any, .any, .any, .any, .any, .any, .any, .any, .any, .any, .any, .any, .any, .any, .any, .any, .any, .any, .any, .any, .any, .any, .any, .any, .any, .any, .any, .any, .any, .any, .any, .any, .any, .any, .any, .any, .any, .any, .any, .any, .any, .any, .any, .any, .any, .any, .any, .any, .any, .any, .any, .any, .any, .any, .any, .any, .any, .any, .any, .any, .any, .any, .any, .any, .any, .any, .any, .any, .any, .any, .any, .any, .any, .any, .any, .any, .any, .any, .any, .any, .any, .any, .any, .any, .any, .any, .any, .any, .any, .any, .any, .any, .any, .any, .any, .any, .any, .any, .any, .any, .any, .any, .any, .any, .any, .any, .any, .any, .any, .any, .any, .any, .any, .any, .any, .any, .any, .any, .any, .any, .any, .any, .any, .any, .any, .any, .any, .any, .any, .any, .any, .any, .any, .any, .any], [.ex false [.c (.os 1 0 0 7 t3.1 none)] 72, .ex false [.row t3.2.1 (.pair (.int .i64) (.pair (.int .i64) (.pair (.int .i64) (.pair .bool (.pair .bool (.pair .str (.int .i64))))))) t113] 30, (halterlaw19_FileCounts.c1 t70)], 0⟩) ∧ (∃ t115 : Int × Int × Int × Bool × Bool × ByteArray × Int × Bool × (Option Int) × (List (Int × (Int × (Int × (Bool × (Bool × (ByteArray × Int))))))), (Fun cfg 14 [.one (.ptr 0 ⟨0, 0, 0, 0⟩), .one (.sc (.int .i64 t4.1))] [.ex false [.c (.os 1 0 0 7 t3.1 none)] 72, .ex false [.row t3.2.1 (.pair (.int .i64) (.pair (.int .i64) (.pair (.int .i64) (.pair .bool (.pair .bool (.pair .str (.int .i64))))))) t113] 30] (file_Table_Unref.R t115) (file_Table_Unref.B t4.1 t3.1 t3.2.1 t113 t115) ∧ True) ∧ (True) ∧ (∃ t116 : TY0, (Fun cfg 12 [.one (.ptr 0 ⟨0, 0, 0, 0⟩), .one (.sc (.int .i64 t5.1))] [.ex false [.c (.os 1 0 0 7 t3.1 none)] 72, .ex false [.row t3.2.1 (.pair (.int .i64) (.pair (.int .i64) (.pair (.int .i64) (.pair .bool (.pair .bool (.pair .str (.int .i64))))))) (z9 t115)] 30] (file_Table_Get.R t116) (file_Table_Get.B t5.1 t3.1 t3.2.1 (z9 t115) t116) ∧ True) ∧ (True) ∧ (True) ∧ (((Option.isNone (z7 t70)) = true → ((Option.isNone (z7 t70)) = true ∧ (∃ t118 : Int, (Fun cfg 9 [.one (.err (p8 t115))] [] (num.R t118) [] ∧ True) ∧ ((Option.isNone (z7 t70)) = true ∧ (True) ∧ ((Option.isNone (z7 t70)) = true ∧ (((t118 == (9 : Int)) = true → ((t118 == (9 : Int)) = true ∧ (True) ∧ ((t118 == (9 : Int)) = true ∧ (((Option.isNone (z7 t116)) = true → (True) ∧ ((Option.isNone (z7 t116)) = true ∧ (True) ∧ ((Option.isNone (z7 t116)) = true ∧ (True) ∧ ((Option.isNone (z7 t116)) = true ∧ (((halterlaw19_FileCounts.c2 t116 t70) = true → ((halterlaw19_FileCounts.c2 t116 t70) = true ∧ (∃ t122 : (List Int), (Fun cfg 16 [.one (.ptr 0 ⟨0, 0, 0, 0⟩)] [.ex false [.c (.os 1 0 0 7 t3.1 none)] 72, .ex false [.row t3.2.1 (.pair (.int .i64) (.pair (.int .i64) (.pair (.int .i64) (.pair .bool (.pair .bool (.pair .str (.int .i64))))))) (z9 t115)] 30] (file_Table_List.R t122) (file_Table_List.B t3.1 t3.2.1 (z9 t115) t122) ∧ True) ∧ ((halterlaw19_FileCounts.c2 t116 t70) = true ∧ ((halterlaw19_FileCounts.c2 t116 t70) = true ∧ ((halterlaw19_FileCounts.c2 t116 t70) = true ∧ (∃ t123 : Bool, ((0 = 0 ∧ 1 = 1) ∧ Fun cfg 15 [.one (.fs (.int .i64) t122 false), .one (.fs (.int .i64) [t5.1] false)] [] (halterlaw19_ints.R t123) [] ∧ True) ∧ ((halterlaw19_FileCounts.c2 t116 t70) = true ∧ ((t123 = true → (∃ t125 : Bool, (Fun cfg 6 [] [] (halterlaw19_sure.R t125) [] ∧ True) ∧ (t123 = true ∧ (True ∧ ((True) ∧ ((True) ∧ True) ∧ (.v (.one (.sc (.bool t125))) : Tm) = halterlaw19_FileCounts.R r ∧ ([] : List Box) = []))))) ∧ (t123 = false → (t123 = false ∧ (True ∧ ((True) ∧ ((True) ∧ True) ∧ (.v (.one (.sc (.bool false))) : Tm) = halterlaw19_FileCounts.R r ∧ ([] : List Box) = []))))))))))))) ∧ ((halterlaw19_FileCounts.c2 t116 t70) = false → ((halterlaw19_FileCounts.c2 t116 t70) = false ∧ ((halterlaw19_FileCounts.c2 t116 t70) = false ∧ ((halterlaw19_FileCounts.c2 t116 t70) = false ∧ ((halterlaw19_FileCounts.c2 t116 t70) = false ∧ ((halterlaw19_FileCounts.c2 t116 t70) = false ∧ (false = false ∧ (false = false ∧ (True ∧ ((True) ∧ ((True) ∧ True) ∧ (.v (.one (.sc (.bool false))) : Tm) = halterlaw19_FileCounts.R r ∧ ([] : List Box) = []))))))))))))))) ∧ ((Option.isNone (z7 t116)) = false → ((Option.isNone (z7 t116)) = false ∧ ((Option.isNone (z7 t116)) = false ∧ ((Option.isNone (z7 t116)) = false ∧ (false = false ∧ (false = false ∧ (false = false ∧ (false = false ∧ (false = false ∧ (false = false ∧ (false = false ∧ (false = false ∧ (True ∧ ((True) ∧ ((True) ∧ True) ∧ (.v (.one (.sc (.bool false))) : Tm) = halterlaw19_FileCounts.R r ∧ ([] : List Box) = [])))))))))))))))))) ∧ ((t118 == (9 : Int)) = false → ((t118 == (9 : Int)) = false ∧ ((t118 == (9 : Int)) = false ∧ (false = false ∧ (false = false ∧ (false = false ∧ (false = false ∧ (false = false ∧ (false = false ∧ (false = false ∧ (false = false ∧ (false = false ∧ (false = false ∧ (false = false ∧ (false = false ∧ (True ∧ ((True) ∧ ((True) ∧ True) ∧ (.v (.one (.sc (.bool false))) : Tm) = halterlaw19_FileCounts.R r ∧ ([] : List Box) = []))))))))))))))))))))))) ∧ ((Option.isNone (z7 t70)) = false → ((Option.isNone (z7 t70)) = false ∧ ((Option.isNone (z7 t70)) = false ∧ ((Option.isNone (z7 t70)) = false ∧ (false = false ∧ (false = false ∧ (false = false ∧ (false = false ∧ (false = false ∧ (false = false ∧ (false = false ∧ (false = false ∧ (false = false ∧ (false = false ∧ (false = false ∧ (false = false ∧ (false = false ∧ (false = false ∧ (false = false ∧ (True ∧ ((True) ∧ ((True) ∧ True) ∧ (.v (.one (.sc (.bool false))) : Tm) = halterlaw19_FileCounts.R r ∧ ([] : List Box) = []))))))))))))))))))))))))) ∨ (∃ t126 : (List (Int × (Int × (Int × (Bool × (Bool × (ByteArray × Int))))))), Trip cfg (.loop (cpath (Tryd.f4.body.getD .skip) [1, 1, 1, 1, 1, 1, 1, 1, 1, 1, 1, 0, 1, 0, 0])) ⟨[.any, .any, .any, .any, .any, .v (.one (.ptr 0 ⟨0, 0, 0, 0⟩)), .any, .any, .any, .any, .any, .v (.one (.sc (.int .i64 t4.1))), .v (.one (.sc (.int .i64 t5.1))), .v (.one (.ptr 2 ⟨0, 0, 0, 0⟩)), .v (.one (.err (z7 t70))), .v (.one (.sc (.int .i64 (IntKind.wrap .i64 ((Int.tmod (IntKind.wrap .u64 (a0)) (40 : Int))))))), .any, .v (.one (.sc (.int .i64 (0 : Int)))), .any, .any, .any, .any, .any, .any, .any, .any, .any, .any, .any, .any, .any, .any, .any, .any, .any, .any, .any, .any, .any, .any, .any, .any, .any, .any, .any, .any, .any, .any, .any, .any, .any, .any, .any, .any, .any, .any, .any, .any, .any, .any, .any, .any, .any, .any, .any, .any, .any, .any, .any, .any, .any, .any, .any, .any, .any, .any, .any, .any, .any, .any, .any, .any, .any, .any, .any, .any, .any, .any, .any, .any, .any, .any, .any, .any, .any, .any, .any, .any, .any, .any, .any, .any, .any, .any, .any, .any, .any, .any, .any, .any, .any, .any, .any, .any, .any, .any, .any, .any, .any, .any, .any, .any, .any, .any, .any, .any, .any, .any, .any, .any, .any, .any, .any, .any, .any, .any, .any, .any, .any, .any, .any, .any, .any, .any, .any, .any, .any, .any, .any, .any, .any, .any, .any], [.ex false [.c (.os 1 0 0 7 t3.1 none)] 72, .ex false [.row t3.2.1 (.pair (.int .i64) (.pair (.int .i64) (.pair (.int .i64) (.pair .bool (.pair .bool (.pair .str (.int .i64))))))) t88] 30, (halterlaw19_FileCounts.c1 t70)], 0⟩ (fun e s => e = .ret ∧ s = ⟨[.any, .any, .any, .any, .v (.one (.sc (.bool false))), .any, .any, .any, .any, .any, .any, .any, .any, .any, .any, .any, .any, .any, .any, .any, .any, .any, .any, .any, .any, .any, .any, .any, .any, .any, .any, .any, .any, .any, .any, .any, .any, .any, .any, .any, .any, .any, .any, .any, .any, .any, .any, .any, .any, .any, .any, .any, .any, .any, .any, .any, .any, .any, .any, .any, .any, .any, .any, .any, .any, .any, .any, .any, .any, .any, .any, .any, .any, .any, .any, .any, .any, .any, .any, .any, .any, .any, .any, .any, .any, .any, .any, .any, .any, .any, .any, .any, .any, .any, .any, .any, .any, .any, .any, .any, .any, .any, .any, .any, .any, .any, .any, .any, .any, .any, .any, .any, .any, .any, .any, .any, .any, .any, .any, .any, .any, .any, .any, .any, .any, .any, .any, .any, .any, .any, .any, .any, .any, .any, .any, .any, .any, .any, .any, .any, .any, .any, .any, .any, .any, .any, .any, .any, .any, .any, .any, .any, .any], [.ex false [.c (.os 1 0 0 7 t3.1 none)] 72, .ex false [.row t3.2.1 (.pair (.int .i64) (.pair (.int .i64) (.pair (.int .i64) (.pair .bool (.pair .bool (.pair .str (.int .i64))))))) t126] 30, (halterlaw19_FileCounts.c1 t70)], 0⟩) ∧ ((True) ∧ ((True) ∧ True) ∧ (.v (.one (.sc (.bool false))) : Tm) = halterlaw19_FileCounts.R r ∧ ([] : List Box) = []))))))) ∨ (∃ t128 : (List (Int × (Int × (Int × (Bool × (Bool × (ByteArray × Int))))))), Trip cfg (.loop (cpath (Tryd.f4.body.getD .skip) [1, 1, 1, 1, 1, 1, 1, 1, 1, 1, 0, 1, 0, 0])) ⟨[.any, .any, .any, .any, .any, .v (.one (.ptr 0 ⟨0, 0, 0, 0⟩)), .any, .any, .any, .any, .any, .v (.one (.sc (.int .i64 t4.1))), .v (.one (.sc (.int .i64 t5.1))), .v (.one (.ptr 2 ⟨0, 0, 0, 0⟩)), .v (.one (.err (z7 t70))), .v (.one (.sc (.int .i64 (IntKind.wrap .i64 ((Int.tmod (IntKind.wrap .u64 (a0)) (40 : Int))))))), .v (.one (.sc (.int .i64 (0 : Int)))), .any, .any, .any, .any, .any, .any, .any, .any, .any, .any, .any, .any, .any, .any, .any, .any, .any, .any, .any, .any, .any, .any, .any, .any, .any, .any, .any, .any, .any, .any, .any, .any, .any, .any, .any, .any, .any, .any, .any, .any, .any, .any, .any, .any, .any, .any, .any, .any, .any, .any, .any, .any, .any, .any, .any, .any, .any, .any, .any, .any, .any, .any, .any, .any, .any, .any, .any, .any, .any, .any, .any, .any, .any, .any, .any, .any, .any, .any, .any, .any, .any, .any, .any, .any, .any, .any, .any, .any, .any, .any, .any, .any, .any, .any, .any, .any, .any, .any, .any, .any, .any, .any, .any, .any, .any, .any, .any, .any, .any, .any, .any, .any, .any, .any, .any, .any, .any, .any, .any, .any, .any, .any, .any, .any, .any, .any, .any, .any, .any, .any, .any, .any, .any, .any, .any, .any], [.ex false [.c (.os 1 0 0 7 t3.1 none)] 72, .ex false [.row t3.2.1 (.pair (.int .i64) (.pair (.int .i64) (.pair (.int .i64) (.pair .bool (.pair .bool (.pair .str (.int .i64))))))) (z2 t5)] 30, (halterlaw19_FileCounts.c1 t70)], 0⟩ (fun e s => e = .ret ∧ s = ⟨[.any, .any, .any, .any, .v (.one (.sc (.bool false))), .any, .any, .any, .any, .any, .any, .any, .any, .any, .any, .any, .any, .any, .any, .any, .any, .any, .any, .any, .any, .any, .any, .any, .any, .any, .any, .any, .any, .any, .any, .any, .any, .any, .any, .any, .any, .any, .any, .any, .any, .any, .any, .any, .any, .any, .any, .any, .any, .any, .any, .any, .any, .any, .any, .any, .any, .any, .any, .any, .any, .any, .any, .any, .any, .any, .any, .any, .any, .any, .any, .any, .any, .any, .any, .any, .any, .any, .any, .any, .any, .any, .any, .any, .any, .any, .any, .any, .any, .any, .any, .any, .any, .any, .any, .any, .any, .any, .any, .any, .any, .any, .any, .any, .any, .any, .any, .any, .any, .any, .any, .any, .any, .any, .any, .any, .any, .any, .any, .any, .any, .any, .any, .any, .any, .any, .any, .any, .any, .any, .any, .any, .any, .any, .any, .any, .any, .any, .any, .any, .any, .any, .any, .any, .any, .any, .any, .any, .any], [.ex false [.c (.os 1 0 0 7 t3.1 none)] 72, .ex false [.row t3.2.1 (.pair (.int .i64) (.pair (.int .i64) (.pair (.int .i64) (.pair .bool (.pair .bool (.pair .str (.int .i64))))))) t128] 30, (halterlaw19_FileCounts.c1 t70)], 0⟩) ∧ ((True) ∧ ((True) ∧ True) ∧ (.v (.one (.sc (.bool false))) : Tm) = halterlaw19_FileCounts.R r ∧ ([] : List Box) = [])))))))))))))))) ∧ ((!(Option.isNone t5.2.1)) = true → ((!(Option.isNone t5.2.1)) = true ∧ ((!(Option.isNone t5.2.1)) = true ∧ ((!(Option.isNone t5.2.1)) = true ∧ (true = true ∧ (True ∧ (True ∧ ((True) ∧ ((True) ∧ True) ∧ (.v (.one (.sc (.bool false))) : Tm) = halterlaw19_FileCounts.R r ∧ ([] : List Box) = [])))))))))))) ∧ ((!(Option.isNone t4.2.1)) = true → ((!(Option.isNone t4.2.1)) = true ∧ ((!(Option.isNone t4.2.1)) = true ∧ (true = true ∧ (true = true ∧ (true = true ∧ (true = true ∧ (true = true ∧ (True ∧ (True ∧ ((True) ∧ ((True) ∧ True) ∧ (.v (.one (.sc (.bool false))) : Tm) = halterlaw19_FileCounts.R r ∧ ([] : List Box) = []))))))))))))))))))))) (by kernel_rfl) ?_)
  obtain ⟨t1, ht1, h⟩ := of_bind h
  rcases t1 with t2 | t3
  · dsimp only at h
    left
    refine ⟨t2, ⟨file_New.fun_ ht1, trivial⟩, ?_⟩
    refine ⟨trivial, ?_⟩
    refine ⟨rfl, ?_⟩
    refine ⟨rfl, ?_⟩
    refine ⟨rfl, ?_⟩
    refine ⟨rfl, ?_⟩
    refine ⟨trivial, ?_⟩
    refine ⟨trivial, ?_⟩
    obtain rfl := Option.some.inj h
    exact ⟨trivial, trivial, rfl, rfl⟩
  · dsimp only at h
    right
    refine ⟨t3, ⟨file_New.fun_ ht1, trivial⟩, ?_⟩
    refine ⟨trivial, ?_⟩
    refine ⟨rfl, ?_⟩
    refine ⟨rfl, ?_⟩
    refine ⟨trivial, ?_⟩
    refine ⟨rfl, ?_⟩
    refine ⟨rfl, ?_⟩
    obtain ⟨t4, ht4, h⟩ := of_bind h
    refine ⟨t4, ⟨file_Table_Open.fun_ ht4, trivial⟩, ?_⟩
    obtain ⟨t5, ht5, h⟩ := of_bind h
    refine ⟨t5, ⟨file_Table_Open.fun_ ht5, trivial⟩, ?_⟩
    refine ⟨trivial, ?_⟩
    refine ⟨fun b6 => ?_, fun b6 => ?_⟩
    · rw [if_neg (not_not_intro (none_t (not_f b6)))] at h
      refine ⟨b6, ?_⟩
      refine ⟨trivial, ?_⟩
      refine ⟨b6, ?_⟩
      refine ⟨fun b7 => ?_, fun b7 => ?_⟩
      · rw [if_neg (not_not_intro (none_t (not_f b7)))] at h
        refine ⟨b7, ?_⟩
        refine ⟨b7, ?_⟩
        refine ⟨trivial, ?_⟩
        refine ⟨b7, ?_⟩
        refine ⟨fun b8 => ?_, fun b8 => ?_⟩
        · rw [if_pos (beq_t b8)] at h
          refine ⟨trivial, ?_⟩
          refine ⟨trivial, ?_⟩
          obtain rfl := Option.some.inj h
          exact ⟨trivial, ⟨trivial, trivial⟩, rfl, rfl⟩
        · rw [if_neg (beq_f b8)] at h
          refine ⟨(by decide), ?_⟩
          refine ⟨trivial, ?_⟩
          refine ⟨fun b9 => ?_, fun b9 => ?_⟩
          · rw [if_pos (beq_t b9)] at h
            obtain ⟨t10, ht10, h⟩ := of_bind h
            refine ⟨t10, ⟨file_Table_Get.fun_ ht10, trivial⟩, ?_⟩
            refine ⟨trivial, ?_⟩
            refine ⟨trivial, ?_⟩
            refine ⟨trivial, ?_⟩
            refine ⟨(by decide), ?_⟩
            refine ⟨trivial, ?_⟩
            refine ⟨trivial, ?_⟩
            refine ⟨trivial, ?_⟩
            obtain ⟨t22, ht22, h⟩ := of_bind h
            refine ⟨⟨trivial, trivial⟩, ?_⟩
            rcases t22 with t28 | t68
            · dsimp only at h
              left
              refine ⟨t28, Trip.loop FUEL (halterlaw19_FileCounts.l0_ok t3 t4 t5 t10 a0 FUEL t5.2.2 (0 : Int) (.inl t28) ht22), ?_⟩
              refine ⟨trivial, ?_⟩
              refine ⟨trivial, ?_⟩
              obtain ⟨t45, ht45, h⟩ := of_bind h
              refine ⟨⟨trivial, trivial⟩, ?_⟩
              rcases t45 with t53 | t66
              · dsimp only at h
                left
                refine ⟨t53, Trip.loop FUEL (halterlaw19_FileCounts.l1_ok t3 t4 t5 t10 a0 FUEL t28 (0 : Int) (.inl t53) ht45), ?_⟩
                obtain ⟨t55, ht55, h⟩ := of_bind h
                refine ⟨t55, ⟨file_Table_Unref.fun_ ht55, trivial⟩, ?_⟩
                refine ⟨trivial, ?_⟩
                obtain ⟨t56, ht56, h⟩ := of_bind h
                refine ⟨t56, ⟨file_Table_Get.fun_ ht56, trivial⟩, ?_⟩
                refine ⟨trivial, ?_⟩
                refine ⟨trivial, ?_⟩
                refine ⟨fun b57 => ?_, fun b57 => ?_⟩
                · rw [if_pos (none_t b57)] at h
                  refine ⟨b57, ?_⟩
                  obtain ⟨t58, ht58, h⟩ := of_bind h
                  refine ⟨t58, ⟨num.fun_ ht58, trivial⟩, ?_⟩
                  refine ⟨b57, ?_⟩
                  refine ⟨trivial, ?_⟩
                  refine ⟨b57, ?_⟩
                  refine ⟨fun b59 => ?_, fun b59 => ?_⟩
                  · rw [if_pos (beq_t b59)] at h
                    refine ⟨b59, ?_⟩
                    refine ⟨trivial, ?_⟩
                    refine ⟨b59, ?_⟩
                    refine ⟨fun b60 => ?_, fun b60 => ?_⟩
                    · rw [if_pos (none_t b60)] at h
                      refine ⟨trivial, ?_⟩
                      refine ⟨b60, ?_⟩
                      refine ⟨trivial, ?_⟩
                      refine ⟨b60, ?_⟩
                      refine ⟨trivial, ?_⟩
                      refine ⟨b60, ?_⟩
                      refine ⟨fun b61 => ?_, fun b61 => ?_⟩
                      · rw [if_pos (and_t (fun h => (beq_t h)) (fun h => (and_t (fun h => (beq_t h)) (fun h => (and_t (fun h => (beq_t h)) (fun h => (and_t (fun h => (bb_t h)) (fun h => (and_t (fun h => (bb_t h)) (fun h => (and_t (fun h => (str_t h)) (fun h => (beq_t (and_l h))) h)) h)) h)) h)) h)) b61)] at h
                        refine ⟨b61, ?_⟩
                        obtain ⟨t62, ht62, h⟩ := of_bind h
                        refine ⟨t62, ⟨file_Table_List.fun_ ht62, trivial⟩, ?_⟩
                        refine ⟨b61, ?_⟩
                        refine ⟨b61, ?_⟩
                        refine ⟨b61, ?_⟩
                        obtain ⟨t63, ht63, h⟩ := of_bind h
                        refine ⟨t63, ⟨⟨rfl, rfl⟩, halterlaw19_ints.fun_ ht63, trivial⟩, ?_⟩
                        refine ⟨b61, ?_⟩
                        refine ⟨fun b64 => ?_, fun b64 => ?_⟩
                        · rw [if_pos b64] at h
                          obtain ⟨t65, ht65, h⟩ := of_bind h
                          refine ⟨t65, ⟨halterlaw19_sure.fun_ ht65, trivial⟩, ?_⟩
                          refine ⟨b64, ?_⟩
                          refine ⟨trivial, ?_⟩
                          obtain rfl := Option.some.inj h
                          exact ⟨trivial, ⟨trivial, trivial⟩, rfl, rfl⟩
                        · rw [if_neg (ff b64)] at h
                          refine ⟨b64, ?_⟩
                          refine ⟨trivial, ?_⟩
                          obtain rfl := Option.some.inj h
                          exact ⟨trivial, ⟨trivial, trivial⟩, rfl, rfl⟩
                      · rw [if_neg (and_f (fun h => (beq_f h)) (fun h => (and_f (fun h => (beq_f h)) (fun h => (and_f (fun h => (beq_f h)) (fun h => (and_f (fun h => (bb_f h)) (fun h => (and_f (fun h => (bb_f h)) (fun h => (and_f (fun h => (str_f h)) (fun h => (beq_f (and_l0 h))) h)) h)) h)) h)) h)) b61)] at h
                        refine ⟨b61, ?_⟩
                        refine ⟨b61, ?_⟩
                        refine ⟨b61, ?_⟩
                        refine ⟨b61, ?_⟩
                        refine ⟨b61, ?_⟩
                        refine ⟨rfl, ?_⟩
                        refine ⟨rfl, ?_⟩
                        refine ⟨trivial, ?_⟩
                        obtain rfl := Option.some.inj h
                        exact ⟨trivial, ⟨trivial, trivial⟩, rfl, rfl⟩
                    · rw [if_neg (none_f b60)] at h
                      refine ⟨b60, ?_⟩
                      refine ⟨b60, ?_⟩
                      refine ⟨b60, ?_⟩
                      refine ⟨rfl, ?_⟩
                      refine ⟨rfl, ?_⟩
                      refine ⟨rfl, ?_⟩
                      refine ⟨rfl, ?_⟩
                      refine ⟨rfl, ?_⟩
                      refine ⟨rfl, ?_⟩
                      refine ⟨rfl, ?_⟩
                      refine ⟨rfl, ?_⟩
                      refine ⟨trivial, ?_⟩
                      obtain rfl := Option.some.inj h
                      exact ⟨trivial, ⟨trivial, trivial⟩, rfl, rfl⟩
                  · rw [if_neg (beq_f b59)] at h
                    refine ⟨b59, ?_⟩
                    refine ⟨b59, ?_⟩
                    refine ⟨rfl, ?_⟩
                    refine ⟨rfl, ?_⟩
                    refine ⟨rfl, ?_⟩
                    refine ⟨rfl, ?_⟩
                    refine ⟨rfl, ?_⟩
                    refine ⟨rfl, ?_⟩
                    refine ⟨rfl, ?_⟩
                    refine ⟨rfl, ?_⟩
                    refine ⟨rfl, ?_⟩
                    refine ⟨rfl, ?_⟩
                    refine ⟨rfl, ?_⟩
                    refine ⟨rfl, ?_⟩
                    refine ⟨trivial, ?_⟩
                    obtain rfl := Option.some.inj h
                    exact ⟨trivial, ⟨trivial, trivial⟩, rfl, rfl⟩
                · rw [if_neg (none_f b57)] at h
                  refine ⟨b57, ?_⟩
                  refine ⟨b57, ?_⟩
                  refine ⟨b57, ?_⟩
                  refine ⟨rfl, ?_⟩
                  refine ⟨rfl, ?_⟩
                  refine ⟨rfl, ?_⟩
                  refine ⟨rfl, ?_⟩
                  refine ⟨rfl, ?_⟩
                  refine ⟨rfl, ?_⟩
                  refine ⟨rfl, ?_⟩
                  refine ⟨rfl, ?_⟩
                  refine ⟨rfl, ?_⟩
                  refine ⟨rfl, ?_⟩
                  refine ⟨rfl, ?_⟩
                  refine ⟨rfl, ?_⟩
                  refine ⟨rfl, ?_⟩
                  refine ⟨rfl, ?_⟩
                  refine ⟨rfl, ?_⟩
                  refine ⟨trivial, ?_⟩
                  obtain rfl := Option.some.inj h
                  exact ⟨trivial, ⟨trivial, trivial⟩, rfl, rfl⟩
              · dsimp only at h
                right
                refine ⟨t66, Trip.loop FUEL (halterlaw19_FileCounts.l1_ok t3 t4 t5 t10 a0 FUEL t28 (0 : Int) (.inr t66) ht45), ?_⟩
                obtain rfl := Option.some.inj h
                exact ⟨trivial, ⟨trivial, trivial⟩, rfl, rfl⟩
            · dsimp only at h
              right
              refine ⟨t68, Trip.loop FUEL (halterlaw19_FileCounts.l0_ok t3 t4 t5 t10 a0 FUEL t5.2.2 (0 : Int) (.inr t68) ht22), ?_⟩
              obtain rfl := Option.some.inj h
              exact ⟨trivial, ⟨trivial, trivial⟩, rfl, rfl⟩
          · rw [if_neg (beq_f b9)] at h
            obtain ⟨t70, ht70, h⟩ := of_bind h
            refine ⟨t70, ⟨file_Table_Get.fun_ ht70, trivial⟩, ?_⟩
            refine ⟨trivial, ?_⟩
            refine ⟨trivial, ?_⟩
            refine ⟨trivial, ?_⟩
            refine ⟨(by decide), ?_⟩
            refine ⟨trivial, ?_⟩
            refine ⟨trivial, ?_⟩
            refine ⟨trivial, ?_⟩
            obtain ⟨t82, ht82, h⟩ := of_bind h
            refine ⟨⟨trivial, trivial⟩, ?_⟩
            rcases t82 with t88 | t128
            · dsimp only at h
              left
              refine ⟨t88, Trip.loop FUEL (halterlaw19_FileCounts.l2_ok t3 t4 t5 t70 a0 FUEL t5.2.2 (0 : Int) (.inl t88) ht82), ?_⟩
              refine ⟨trivial, ?_⟩
              refine ⟨trivial, ?_⟩
              obtain ⟨t105, ht105, h⟩ := of_bind h
              refine ⟨⟨trivial, trivial⟩, ?_⟩
              rcases t105 with t113 | t126
              · dsimp only at h
                left
                refine ⟨t113, Trip.loop FUEL (halterlaw19_FileCounts.l3_ok t3 t4 t5 t70 a0 FUEL t88 (0 : Int) (.inl t113) ht105), ?_⟩
                obtain ⟨t115, ht115, h⟩ := of_bind h
                refine ⟨t115, ⟨file_Table_Unref.fun_ ht115, trivial⟩, ?_⟩
                refine ⟨trivial, ?_⟩
                obtain ⟨t116, ht116, h⟩ := of_bind h
                refine ⟨t116, ⟨file_Table_Get.fun_ ht116, trivial⟩, ?_⟩
                refine ⟨trivial, ?_⟩
                refine ⟨trivial, ?_⟩
                refine ⟨fun b117 => ?_, fun b117 => ?_⟩
                · rw [if_pos (none_t b117)] at h
                  refine ⟨b117, ?_⟩
                  obtain ⟨t118, ht118, h⟩ := of_bind h
                  refine ⟨t118, ⟨num.fun_ ht118, trivial⟩, ?_⟩
                  refine ⟨b117, ?_⟩
                  refine ⟨trivial, ?_⟩
                  refine ⟨b117, ?_⟩
                  refine ⟨fun b119 => ?_, fun b119 => ?_⟩
                  · rw [if_pos (beq_t b119)] at h
                    refine ⟨b119, ?_⟩
                    refine ⟨trivial, ?_⟩
                    refine ⟨b119, ?_⟩
                    refine ⟨fun b120 => ?_, fun b120 => ?_⟩
                    · rw [if_pos (none_t b120)] at h
                      refine ⟨trivial, ?_⟩
                      refine ⟨b120, ?_⟩
                      refine ⟨trivial, ?_⟩
                      refine ⟨b120, ?_⟩
                      refine ⟨trivial, ?_⟩
                      refine ⟨b120, ?_⟩
                      refine ⟨fun b121 => ?_, fun b121 => ?_⟩
                      · rw [if_pos (and_t (fun h => (beq_t h)) (fun h => (and_t (fun h => (beq_t h)) (fun h => (and_t (fun h => (beq_t h)) (fun h => (and_t (fun h => (bb_t h)) (fun h => (and_t (fun h => (bb_t h)) (fun h => (and_t (fun h => (str_t h)) (fun h => (beq_t (and_l h))) h)) h)) h)) h)) h)) b121)] at h
                        refine ⟨b121, ?_⟩
                        obtain ⟨t122, ht122, h⟩ := of_bind h
                        refine ⟨t122, ⟨file_Table_List.fun_ ht122, trivial⟩, ?_⟩
                        refine ⟨b121, ?_⟩
                        refine ⟨b121, ?_⟩
                        refine ⟨b121, ?_⟩
                        obtain ⟨t123, ht123, h⟩ := of_bind h
                        refine ⟨t123, ⟨⟨rfl, rfl⟩, halterlaw19_ints.fun_ ht123, trivial⟩, ?_⟩
                        refine ⟨b121, ?_⟩
                        refine ⟨fun b124 => ?_, fun b124 => ?_⟩
                        · rw [if_pos b124] at h
                          obtain ⟨t125, ht125, h⟩ := of_bind h
                          refine ⟨t125, ⟨halterlaw19_sure.fun_ ht125, trivial⟩, ?_⟩
                          refine ⟨b124, ?_⟩
                          refine ⟨trivial, ?_⟩
                          obtain rfl := Option.some.inj h
                          exact ⟨trivial, ⟨trivial, trivial⟩, rfl, rfl⟩
                        · rw [if_neg (ff b124)] at h
                          refine ⟨b124, ?_⟩
                          refine ⟨trivial, ?_⟩
                          obtain rfl := Option.some.inj h
                          exact ⟨trivial, ⟨trivial, trivial⟩, rfl, rfl⟩
                      · rw [if_neg (and_f (fun h => (beq_f h)) (fun h => (and_f (fun h => (beq_f h)) (fun h => (and_f (fun h => (beq_f h)) (fun h => (and_f (fun h => (bb_f h)) (fun h => (and_f (fun h => (bb_f h)) (fun h => (and_f (fun h => (str_f h)) (fun h => (beq_f (and_l0 h))) h)) h)) h)) h)) h)) b121)] at h
                        refine ⟨b121, ?_⟩
                        refine ⟨b121, ?_⟩
                        refine ⟨b121, ?_⟩
                        refine ⟨b121, ?_⟩
                        refine ⟨b121, ?_⟩
                        refine ⟨rfl, ?_⟩
                        refine ⟨rfl, ?_⟩
                        refine ⟨trivial, ?_⟩
                        obtain rfl := Option.some.inj h
                        exact ⟨trivial, ⟨trivial, trivial⟩, rfl, rfl⟩
                    · rw [if_neg (none_f b120)] at h
                      refine ⟨b120, ?_⟩
                      refine ⟨b120, ?_⟩
                      refine ⟨b120, ?_⟩
                      refine ⟨rfl, ?_⟩
                      refine ⟨rfl, ?_⟩
                      refine ⟨rfl, ?_⟩
                      refine ⟨rfl, ?_⟩
                      refine ⟨rfl, ?_⟩
                      refine ⟨rfl, ?_⟩
                      refine ⟨rfl, ?_⟩
                      refine ⟨rfl, ?_⟩
                      refine ⟨trivial, ?_⟩
                      obtain rfl := Option.some.inj h
                      exact ⟨trivial, ⟨trivial, trivial⟩, rfl, rfl⟩
                  · rw [if_neg (beq_f b119)] at h
                    refine ⟨b119, ?_⟩
                    refine ⟨b119, ?_⟩
                    refine ⟨rfl, ?_⟩
                    refine ⟨rfl, ?_⟩
                    refine ⟨rfl, ?_⟩
                    refine ⟨rfl, ?_⟩
                    refine ⟨rfl, ?_⟩
                    refine ⟨rfl, ?_⟩
                    refine ⟨rfl, ?_⟩
                    refine ⟨rfl, ?_⟩
                    refine ⟨rfl, ?_⟩
                    refine ⟨rfl, ?_⟩
                    refine ⟨rfl, ?_⟩
                    refine ⟨rfl, ?_⟩
                    refine ⟨trivial, ?_⟩
                    obtain rfl := Option.some.inj h
                    exact ⟨trivial, ⟨trivial, trivial⟩, rfl, rfl⟩
                · rw [if_neg (none_f b117)] at h
                  refine ⟨b117, ?_⟩
                  refine ⟨b117, ?_⟩
                  refine ⟨b117, ?_⟩
                  refine ⟨rfl, ?_⟩
                  refine ⟨rfl, ?_⟩
                  refine ⟨rfl, ?_⟩
                  refine ⟨rfl, ?_⟩
                  refine ⟨rfl, ?_⟩
                  refine ⟨rfl, ?_⟩
                  refine ⟨rfl, ?_⟩
                  refine ⟨rfl, ?_⟩
                  refine ⟨rfl, ?_⟩
                  refine ⟨rfl, ?_⟩
                  refine ⟨rfl, ?_⟩
                  refine ⟨rfl, ?_⟩
                  refine ⟨rfl, ?_⟩
                  refine ⟨rfl, ?_⟩
                  refine ⟨rfl, ?_⟩
                  refine ⟨trivial, ?_⟩
                  obtain rfl := Option.some.inj h
                  exact ⟨trivial, ⟨trivial, trivial⟩, rfl, rfl⟩
              · dsimp only at h
                right
                refine ⟨t126, Trip.loop FUEL (halterlaw19_FileCounts.l3_ok t3 t4 t5 t70 a0 FUEL t88 (0 : Int) (.inr t126) ht105), ?_⟩
                obtain rfl := Option.some.inj h
                exact ⟨trivial, ⟨trivial, trivial⟩, rfl, rfl⟩
            · dsimp only at h
              right
              refine ⟨t128, Trip.loop FUEL (halterlaw19_FileCounts.l2_ok t3 t4 t5 t70 a0 FUEL t5.2.2 (0 : Int) (.inr t128) ht82), ?_⟩
              obtain rfl := Option.some.inj h
              exact ⟨trivial, ⟨trivial, trivial⟩, rfl, rfl⟩
      · rw [if_pos (none_f (not_t b7))] at h
        refine ⟨b7, ?_⟩
        refine ⟨b7, ?_⟩
        refine ⟨b7, ?_⟩
        refine ⟨rfl, ?_⟩
        refine ⟨trivial, ?_⟩
        refine ⟨trivial, ?_⟩
        obtain rfl := Option.some.inj h
        exact ⟨trivial, ⟨trivial, trivial⟩, rfl, rfl⟩
    · rw [if_pos (none_f (not_t b6))] at h
      refine ⟨b6, ?_⟩
      refine ⟨b6, ?_⟩
      refine ⟨rfl, ?_⟩
      refine ⟨rfl, ?_⟩
      refine ⟨rfl, ?_⟩
      refine ⟨rfl, ?_⟩
      refine ⟨rfl, ?_⟩
      refine ⟨trivial, ?_⟩
      refine ⟨trivial, ?_⟩
      obtain rfl := Option.some.inj h
      exact ⟨trivial, ⟨trivial, trivial⟩, rfl, rfl⟩
end Go.Proofs.YticdckalmebhmaaDoorGFileCounts
