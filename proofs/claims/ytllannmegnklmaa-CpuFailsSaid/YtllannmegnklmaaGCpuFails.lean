/- Printed by gen.py: the next part. -/
import Derived.Test.YtllannmegnklmaaGCpuFailsp2
set_option linter.unusedVariables false
set_option maxRecDepth 100000
set_option maxHeartbeats 4000000
namespace Go.Proofs.YtllannmegnklmaaGCpuFails
open Go Go.Proofs.YtllannmegnklmaaE
theorem halterlaw12_CpuFails.fun_ {a0 : (List Int)} {a1 : (List Int)} {a2 : Int} {a3 : Int} {a4 : (List Int)} {r : Bool} (h : halterlaw12_CpuFails.f a0 a1 a2 a3 a4 = some r) : Fun cfg 3 [.one (.fs (.int .u32) a0 false), .agg [.row 16 (.int .u32) a1, .c (.sc (.int .u32 a2)), .c (.sc (.int .u32 a3)), .row 4 (.int .u64) a4]] [] (halterlaw12_CpuFails.R r) [] := by
  unfold halterlaw12_CpuFails.f at h
  refine fun_of_run cfg_ok (f := 3) (fn := Try.f3) Try.func3 rfl (by kernel_rfl) (rs := [.tmp 4]) rfl (nt := 163) rfl (l := fin) (k := (.callR true [] [] (Int × Int × (List Int)) (fun t1 => (halterlaw12_laid.R t1)) (fun t1 => (halterlaw12_laid.B a0 t1)) (fun t1 => (.callR true [] [] (Int × Int × (List Int)) (fun t2 => (halterlaw12_laid.R t2)) (fun t2 => (halterlaw12_laid.B a0 t2)) (fun t2 => (.d (.b true) (.aj [.fixB true 2] (.callR true [] [1, 2] (TY2) (fun t3 => (cpu_Step.R t3)) (fun t3 => (cpu_Step.B a1 a2 a3 a4 t1.1 t1.2.1 (z2 t1) t3)) (fun t3 => (.aj [.fixB true 4] (.callR true [] [3, 4] (TY2) (fun t4 => (cpu_Step.R t4)) (fun t4 => (cpu_Step.B a1 a2 a3 a4 t2.1 t2.2.1 (z2 t2) t4)) (fun t4 => (.emb (!((intsEq t3.1 t4.1) && ((t3.2.1 == t4.2.1) && (((p2 t3) == (p2 t4)) && ((intsEq (p3 t3) (p3 t4)) && true))))) (.dr (nr 0 4 [(4, dT), (5, dT), (6, dT), (7, d1), (8, dN), (9, dT), (10, dT), (11, dT), (14, dT), (15, dT), (16, dT), (12, dT), (13, dT), (17, dT), (18, dT), (19, dT), (20, d1), (21, dN), (22, dT), (23, dT), (24, dT), (25, dT), (26, dT), (27, d1)]) (.one true (aE 2 (.adj [.drop 0] .nil)))) (.emb (!(((p4 t3) == (p4 t4)) && (((p5 t3) == (p5 t4)) && (((p6 t3) == (p6 t4)) && true)))) (.dr (nr 0 4 [(4, dF), (5, dF), (6, dF), (7, d0), (8, dN), (9, dT), (10, dT), (11, dT), (14, dT), (15, dT), (16, dT), (12, dT), (13, dT), (17, dT), (18, dT), (19, dT), (20, d1), (21, dN), (22, dT), (23, dT), (24, dT), (25, dT), (26, dT), (27, d1)]) (.one true (aE 2 (.adj [.drop 0] .nil)))) (.emb (!((strOfNums (z9 t3)).toList == (strOfNums (z9 t4)).toList)) (.dr (nr 0 4 [(4, dF), (5, dF), (6, dF), (7, d0), (8, dN), (9, dF), (10, dF), (11, dF), (14, dF), (15, dF), (16, dF), (12, dF), (13, ⟨(some false), .b true, false⟩), (17, dF), (18, ⟨(some false), .b true, false⟩), (19, dF), (20, d0), (21, dN), (22, dT), (23, dT), (24, dT), (25, dT), (26, dT), (27, d1)]) (.one true (aE 2 (.adj [.drop 0] .nil)))) (.dr (nr 0 4 [(4, dF), (5, dF), (6, dF), (7, d0), (8, dN), (9, dF), (10, dF), (11, dF), (14, dF), (15, dF), (16, dF), (12, dF), (13, ⟨(some false), .b true, false⟩), (17, dF), (18, ⟨(some false), .b true, false⟩), (19, dF), (20, d0), (21, dN), (22, dF), (23, dF), (24, dF), (25, dF), (26, dF), (27, d0)]) (.br (aE 2 (.adj [.drop 0] .nil)) (.br (oT 3 (.br (aE 2 (.adj [.drop 0] .nil)) (.emb ((p8 t3) == (0 : Int)) (.dr (nr 0 6 [(6, dT), (7, dT), (8, dT), (11, dT), (12, ⟨(some true), .b true, false⟩), (9, dT), (10, ⟨(some true), .b true, false⟩), (13, dT), (14, d1)]) (.br (aE 2 (.adj [.drop 0] .nil)) (.br (oT 4 (.br (oT 7 (.br (.call false [] (Int × Int) halterref01_Load.R (fun t16 => (.call true [] (Int × Int × Int × Int × Int) halterref08_Decode.R (fun t17 => (oT 13 (.call true [] (Bool) halterlaw12_sure.R (fun t18 => (.one true (.adj [] (.adj [.drop 0] .nil)))))))))) (oT 7 (.call true [] (Bool) halterlaw12_sure.R (fun t21 => (.one true (.adj [] (.adj [.drop 0] .nil)))))))) (oF 8 (oT 7 (.call true [] (Bool) halterlaw12_sure.R (fun t22 => (.one true (.adj [] (.adj [.drop 0] .nil))))))))) (oF 13 (oT 7 (.call true [] (Bool) halterlaw12_sure.R (fun t23 => (.one true (.adj [] (.adj [.drop 0] .nil)))))))))) (.dr (nr 0 6 [(6, dF), (7, dF), (8, dF), (11, dF), (12, dF), (9, dF), (10, dF), (13, dF), (14, d0)]) (.one false (.br (oT 4 (.br (oT 7 (.br (.call false [] (Int × Int) halterref01_Load.R (fun t27 => (.call true [] (Int × Int × Int × Int × Int) halterref08_Decode.R (fun t28 => (oF 4 (.br (oT 8 (.call true [] (Bool) halterlaw12_sure.R (fun t30 => (.one true (.adj [] (.adj [.drop 0] .nil)))))) (oF 3 (.br (oT 4 (.call true [] (Bool) halterlaw12_sure.R (fun t32 => (.one true (.adj [] (.adj [.drop 0] .nil)))))) (oF 3 (.br (.call true [] (Bool) halterlaw12_sure.R (fun t34 => (.one true (.adj [] (.adj [.drop 0] .nil))))) (.one false (.adj [] (.adj [.drop 0] .nil))))))))))))) (oT 6 (oF 2 (.adj [] (.adj [.drop 0] .nil)))))) (oF 8 (oT 6 (oF 2 (.adj [] (.adj [.drop 0] .nil))))))) (oF 13 (oT 6 (oF 2 (.adj [] (.adj [.drop 0] .nil))))))))))) (oF 4 (.emb ((p8 t3) == (0 : Int)) (.dr (nr 0 6 [(6, dT), (7, dT), (8, dT), (11, dT), (12, ⟨(some true), .b true, false⟩), (9, dT), (10, ⟨(some true), .b true, false⟩), (13, dT), (14, d1)]) (.br (aE 2 (.adj [.drop 0] .nil)) (.br (oT 4 (.br (oT 7 (.br (.call false [] (Int × Int) halterref01_Load.R (fun t42 => (.call true [] (Int × Int × Int × Int × Int) halterref08_Decode.R (fun t43 => (oT 13 (.call true [] (Bool) halterlaw12_sure.R (fun t44 => (.one true (.adj [] (.adj [.drop 0] .nil)))))))))) (oF 8 (.adj [] (.adj [.drop 0] .nil))))) (oF 16 (.adj [] (.adj [.drop 0] .nil))))) (oF 21 (.adj [] (.adj [.drop 0] .nil)))))) (.dr (nr 0 6 [(6, dF), (7, dF), (8, dF), (11, dF), (12, dF), (9, dF), (10, dF), (13, dF), (14, d0)]) (.one false (.br (oT 4 (.br (oT 7 (.br (.call false [] (Int × Int) halterref01_Load.R (fun t50 => (.call true [] (Int × Int × Int × Int × Int) halterref08_Decode.R (fun t51 => (oF 4 (.br (oT 8 (.call true [] (Bool) halterlaw12_sure.R (fun t53 => (.one true (.adj [] (.adj [.drop 0] .nil)))))) (oF 3 (.br (oT 4 (.call true [] (Bool) halterlaw12_sure.R (fun t55 => (.one true (.adj [] (.adj [.drop 0] .nil)))))) (oF 3 (.br (.call true [] (Bool) halterlaw12_sure.R (fun t57 => (.one true (.adj [] (.adj [.drop 0] .nil))))) (.one false (.adj [] (.adj [.drop 0] .nil))))))))))))) (oF 8 (.adj [] (.adj [.drop 0] .nil))))) (oF 16 (.adj [] (.adj [.drop 0] .nil))))) (oF 21 (.adj [] (.adj [.drop 0] .nil)))))))))))))))))))))))))) (to_goal (q := (∃ t1 : Int × Int × (List Int), (Fun cfg 6 [.one (.fs (.int .u32) a0 false)] [] (halterlaw12_laid.R t1) (halterlaw12_laid.B a0 t1) ∧ U) ∧ (∃ t2 : Int × Int × (List Int), (Fun cfg 6 [.one (.fs (.int .u32) a0 false)] [] (halterlaw12_laid.R t2) (halterlaw12_laid.B a0 t2) ∧ U) ∧ (U) ∧ ((0 = 0 ∧ (List.length (z2 t1)) = (List.length (z2 t1))) ∧ ((List.length (z2 t1)) * 1 ≤ 140737488355328 ∧ (List.length (z2 t1)) ≤ 9223372036854775807)) ∧ (U) ∧ (U) ∧ (U) ∧ (((U) ∧ U) ∧ (∃ t3 : TY2, (Fun cfg 7 [.one (.ip 29 0), .agg [.row 16 (.int .u32) a1, .c (.sc (.int .u32 a2)), .c (.sc (.int .u32 a3)), .row 4 (.int .u64) a4]] [.ex false [.c (.os 1 0 0 1 (List.length (z2 t1)) none), .c (.sc (.int .i64 t1.1)), .c (.sc (.int .i64 t1.2.1))] 33, .fix false (.int .u8) (z2 t1) 5] (cpu_Step.R t3) (cpu_Step.B a1 a2 a3 a4 t1.1 t1.2.1 (z2 t1) t3) ∧ U) ∧ (U) ∧ (U) ∧ (U) ∧ (((U) ∧ U) ∧ (∃ t4 : TY2, (Fun cfg 7 [.one (.ip 29 0), .agg [.row 16 (.int .u32) a1, .c (.sc (.int .u32 a2)), .c (.sc (.int .u32 a3)), .row 4 (.int .u64) a4]] [.ex false [.c (.os 1 0 0 1 (List.length (z2 t2)) none), .c (.sc (.int .i64 t2.1)), .c (.sc (.int .i64 t2.2.1))] 33, .fix false (.int .u8) (z2 t2) 5] (cpu_Step.R t4) (cpu_Step.B a1 a2 a3 a4 t2.1 t2.2.1 (z2 t2) t4) ∧ U) ∧ (U) ∧ (U) ∧ (((!((intsEq t3.1 t4.1) && ((t3.2.1 == t4.2.1) && (((p2 t3) == (p2 t4)) && ((intsEq (p3 t3) (p3 t4)) && true))))) = true → (U) ∧ (U) ∧ (U) ∧ ((!((intsEq t3.1 t4.1) && ((t3.2.1 == t4.2.1) && (((p2 t3) == (p2 t4)) && ((intsEq (p3 t3) (p3 t4)) && true))))) = true) ∧ ((!((intsEq t3.1 t4.1) && ((t3.2.1 == t4.2.1) && (((p2 t3) == (p2 t4)) && ((intsEq (p3 t3) (p3 t4)) && true))))) = true) ∧ ((!((intsEq t3.1 t4.1) && ((t3.2.1 == t4.2.1) && (((p2 t3) == (p2 t4)) && ((intsEq (p3 t3) (p3 t4)) && true))))) = true) ∧ ((!((intsEq t3.1 t4.1) && ((t3.2.1 == t4.2.1) && (((p2 t3) == (p2 t4)) && ((intsEq (p3 t3) (p3 t4)) && true))))) = true) ∧ (true = true) ∧ (true = true) ∧ (true = true) ∧ (true = true) ∧ (true = true) ∧ (true = true) ∧ (true = true) ∧ (true = true) ∧ (true = true) ∧ (true = true) ∧ (true = true) ∧ (true = true) ∧ (true = true) ∧ (true = true) ∧ (true = true) ∧ (true = true) ∧ (true = true) ∧ (true = true) ∧ (true = true ∧ (U ∧ (U ∧ ((U) ∧ ((U) ∧ U) ∧ (vb false : Tm) = halterlaw12_CpuFails.R r ∧ ([] : List Box) = []))))) ∧ ((!((intsEq t3.1 t4.1) && ((t3.2.1 == t4.2.1) && (((p2 t3) == (p2 t4)) && ((intsEq (p3 t3) (p3 t4)) && true))))) = false → (((!(((p4 t3) == (p4 t4)) && (((p5 t3) == (p5 t4)) && (((p6 t3) == (p6 t4)) && true)))) = true → (U) ∧ (U) ∧ (U) ∧ ((!((intsEq t3.1 t4.1) && ((t3.2.1 == t4.2.1) && (((p2 t3) == (p2 t4)) && ((intsEq (p3 t3) (p3 t4)) && true))))) = false ∧ U) ∧ ((!((intsEq t3.1 t4.1) && ((t3.2.1 == t4.2.1) && (((p2 t3) == (p2 t4)) && ((intsEq (p3 t3) (p3 t4)) && true))))) = false ∧ U) ∧ ((!((intsEq t3.1 t4.1) && ((t3.2.1 == t4.2.1) && (((p2 t3) == (p2 t4)) && ((intsEq (p3 t3) (p3 t4)) && true))))) = false ∧ U) ∧ ((!((intsEq t3.1 t4.1) && ((t3.2.1 == t4.2.1) && (((p2 t3) == (p2 t4)) && ((intsEq (p3 t3) (p3 t4)) && true))))) = false) ∧ ((!(((p4 t3) == (p4 t4)) && (((p5 t3) == (p5 t4)) && (((p6 t3) == (p6 t4)) && true)))) = true) ∧ ((!(((p4 t3) == (p4 t4)) && (((p5 t3) == (p5 t4)) && (((p6 t3) == (p6 t4)) && true)))) = true) ∧ ((!(((p4 t3) == (p4 t4)) && (((p5 t3) == (p5 t4)) && (((p6 t3) == (p6 t4)) && true)))) = true) ∧ ((!(((p4 t3) == (p4 t4)) && (((p5 t3) == (p5 t4)) && (((p6 t3) == (p6 t4)) && true)))) = true) ∧ ((!(((p4 t3) == (p4 t4)) && (((p5 t3) == (p5 t4)) && (((p6 t3) == (p6 t4)) && true)))) = true) ∧ ((!(((p4 t3) == (p4 t4)) && (((p5 t3) == (p5 t4)) && (((p6 t3) == (p6 t4)) && true)))) = true) ∧ ((!(((p4 t3) == (p4 t4)) && (((p5 t3) == (p5 t4)) && (((p6 t3) == (p6 t4)) && true)))) = true) ∧ ((!(((p4 t3) == (p4 t4)) && (((p5 t3) == (p5 t4)) && (((p6 t3) == (p6 t4)) && true)))) = true) ∧ ((!(((p4 t3) == (p4 t4)) && (((p5 t3) == (p5 t4)) && (((p6 t3) == (p6 t4)) && true)))) = true) ∧ ((!(((p4 t3) == (p4 t4)) && (((p5 t3) == (p5 t4)) && (((p6 t3) == (p6 t4)) && true)))) = true) ∧ ((!(((p4 t3) == (p4 t4)) && (((p5 t3) == (p5 t4)) && (((p6 t3) == (p6 t4)) && true)))) = true) ∧ ((!(((p4 t3) == (p4 t4)) && (((p5 t3) == (p5 t4)) && (((p6 t3) == (p6 t4)) && true)))) = true) ∧ (true = true) ∧ (true = true) ∧ (true = true) ∧ (true = true) ∧ (true = true) ∧ (true = true) ∧ (true = true ∧ (U ∧ (U ∧ ((U) ∧ ((U) ∧ U) ∧ (vb false : Tm) = halterlaw12_CpuFails.R r ∧ ([] : List Box) = []))))) ∧ ((!(((p4 t3) == (p4 t4)) && (((p5 t3) == (p5 t4)) && (((p6 t3) == (p6 t4)) && true)))) = false → (((!((strOfNums (z9 t3)).toList == (strOfNums (z9 t4)).toList)) = true → (U) ∧ (U) ∧ (U) ∧ ((!((intsEq t3.1 t4.1) && ((t3.2.1 == t4.2.1) && (((p2 t3) == (p2 t4)) && ((intsEq (p3 t3) (p3 t4)) && true))))) = false ∧ U) ∧ ((!((intsEq t3.1 t4.1) && ((t3.2.1 == t4.2.1) && (((p2 t3) == (p2 t4)) && ((intsEq (p3 t3) (p3 t4)) && true))))) = false ∧ U) ∧ ((!((intsEq t3.1 t4.1) && ((t3.2.1 == t4.2.1) && (((p2 t3) == (p2 t4)) && ((intsEq (p3 t3) (p3 t4)) && true))))) = false ∧ U) ∧ ((!((intsEq t3.1 t4.1) && ((t3.2.1 == t4.2.1) && (((p2 t3) == (p2 t4)) && ((intsEq (p3 t3) (p3 t4)) && true))))) = false) ∧ ((!(((p4 t3) == (p4 t4)) && (((p5 t3) == (p5 t4)) && (((p6 t3) == (p6 t4)) && true)))) = false ∧ U) ∧ ((!(((p4 t3) == (p4 t4)) && (((p5 t3) == (p5 t4)) && (((p6 t3) == (p6 t4)) && true)))) = false ∧ U) ∧ ((!(((p4 t3) == (p4 t4)) && (((p5 t3) == (p5 t4)) && (((p6 t3) == (p6 t4)) && true)))) = false ∧ U) ∧ ((!(((p4 t3) == (p4 t4)) && (((p5 t3) == (p5 t4)) && (((p6 t3) == (p6 t4)) && true)))) = false ∧ U) ∧ ((!(((p4 t3) == (p4 t4)) && (((p5 t3) == (p5 t4)) && (((p6 t3) == (p6 t4)) && true)))) = false ∧ U) ∧ ((!(((p4 t3) == (p4 t4)) && (((p5 t3) == (p5 t4)) && (((p6 t3) == (p6 t4)) && true)))) = false ∧ U) ∧ ((!(((p4 t3) == (p4 t4)) && (((p5 t3) == (p5 t4)) && (((p6 t3) == (p6 t4)) && true)))) = false ∧ U) ∧ ((!(((p4 t3) == (p4 t4)) && (((p5 t3) == (p5 t4)) && (((p6 t3) == (p6 t4)) && true)))) = false ∧ 0 = 0 ∧ (List.length (z9 t3)) = (List.length (z9 t3))) ∧ ((!(((p4 t3) == (p4 t4)) && (((p5 t3) == (p5 t4)) && (((p6 t3) == (p6 t4)) && true)))) = false ∧ U) ∧ ((!(((p4 t3) == (p4 t4)) && (((p5 t3) == (p5 t4)) && (((p6 t3) == (p6 t4)) && true)))) = false ∧ 0 = 0 ∧ (List.length (z9 t4)) = (List.length (z9 t4))) ∧ ((!(((p4 t3) == (p4 t4)) && (((p5 t3) == (p5 t4)) && (((p6 t3) == (p6 t4)) && true)))) = false ∧ U) ∧ ((!(((p4 t3) == (p4 t4)) && (((p5 t3) == (p5 t4)) && (((p6 t3) == (p6 t4)) && true)))) = false) ∧ ((!((strOfNums (z9 t3)).toList == (strOfNums (z9 t4)).toList)) = true) ∧ ((!((strOfNums (z9 t3)).toList == (strOfNums (z9 t4)).toList)) = true) ∧ ((!((strOfNums (z9 t3)).toList == (strOfNums (z9 t4)).toList)) = true) ∧ ((!((strOfNums (z9 t3)).toList == (strOfNums (z9 t4)).toList)) = true) ∧ ((!((strOfNums (z9 t3)).toList == (strOfNums (z9 t4)).toList)) = true) ∧ ((!((strOfNums (z9 t3)).toList == (strOfNums (z9 t4)).toList)) = true) ∧ (true = true ∧ (U ∧ (U ∧ ((U) ∧ ((U) ∧ U) ∧ (vb false : Tm) = halterlaw12_CpuFails.R r ∧ ([] : List Box) = []))))) ∧ ((!((strOfNums (z9 t3)).toList == (strOfNums (z9 t4)).toList)) = false → (U) ∧ (U) ∧ (U) ∧ ((!((intsEq t3.1 t4.1) && ((t3.2.1 == t4.2.1) && (((p2 t3) == (p2 t4)) && ((intsEq (p3 t3) (p3 t4)) && true))))) = false ∧ U) ∧ ((!((intsEq t3.1 t4.1) && ((t3.2.1 == t4.2.1) && (((p2 t3) == (p2 t4)) && ((intsEq (p3 t3) (p3 t4)) && true))))) = false ∧ U) ∧ ((!((intsEq t3.1 t4.1) && ((t3.2.1 == t4.2.1) && (((p2 t3) == (p2 t4)) && ((intsEq (p3 t3) (p3 t4)) && true))))) = false ∧ U) ∧ ((!((intsEq t3.1 t4.1) && ((t3.2.1 == t4.2.1) && (((p2 t3) == (p2 t4)) && ((intsEq (p3 t3) (p3 t4)) && true))))) = false) ∧ ((!(((p4 t3) == (p4 t4)) && (((p5 t3) == (p5 t4)) && (((p6 t3) == (p6 t4)) && true)))) = false ∧ U) ∧ ((!(((p4 t3) == (p4 t4)) && (((p5 t3) == (p5 t4)) && (((p6 t3) == (p6 t4)) && true)))) = false ∧ U) ∧ ((!(((p4 t3) == (p4 t4)) && (((p5 t3) == (p5 t4)) && (((p6 t3) == (p6 t4)) && true)))) = false ∧ U) ∧ ((!(((p4 t3) == (p4 t4)) && (((p5 t3) == (p5 t4)) && (((p6 t3) == (p6 t4)) && true)))) = false ∧ U) ∧ ((!(((p4 t3) == (p4 t4)) && (((p5 t3) == (p5 t4)) && (((p6 t3) == (p6 t4)) && true)))) = false ∧ U) ∧ ((!(((p4 t3) == (p4 t4)) && (((p5 t3) == (p5 t4)) && (((p6 t3) == (p6 t4)) && true)))) = false ∧ U) ∧ ((!(((p4 t3) == (p4 t4)) && (((p5 t3) == (p5 t4)) && (((p6 t3) == (p6 t4)) && true)))) = false ∧ U) ∧ ((!(((p4 t3) == (p4 t4)) && (((p5 t3) == (p5 t4)) && (((p6 t3) == (p6 t4)) && true)))) = false ∧ 0 = 0 ∧ (List.length (z9 t3)) = (List.length (z9 t3))) ∧ ((!(((p4 t3) == (p4 t4)) && (((p5 t3) == (p5 t4)) && (((p6 t3) == (p6 t4)) && true)))) = false ∧ U) ∧ ((!(((p4 t3) == (p4 t4)) && (((p5 t3) == (p5 t4)) && (((p6 t3) == (p6 t4)) && true)))) = false ∧ 0 = 0 ∧ (List.length (z9 t4)) = (List.length (z9 t4))) ∧ ((!(((p4 t3) == (p4 t4)) && (((p5 t3) == (p5 t4)) && (((p6 t3) == (p6 t4)) && true)))) = false ∧ U) ∧ ((!(((p4 t3) == (p4 t4)) && (((p5 t3) == (p5 t4)) && (((p6 t3) == (p6 t4)) && true)))) = false) ∧ ((!((strOfNums (z9 t3)).toList == (strOfNums (z9 t4)).toList)) = false ∧ U) ∧ ((!((strOfNums (z9 t3)).toList == (strOfNums (z9 t4)).toList)) = false ∧ U) ∧ ((!((strOfNums (z9 t3)).toList == (strOfNums (z9 t4)).toList)) = false ∧ U) ∧ ((!((strOfNums (z9 t3)).toList == (strOfNums (z9 t4)).toList)) = false ∧ U) ∧ ((!((strOfNums (z9 t3)).toList == (strOfNums (z9 t4)).toList)) = false ∧ U) ∧ ((!((strOfNums (z9 t3)).toList == (strOfNums (z9 t4)).toList)) = false) ∧ (((decide ((p7 t3) > (1 : Int))) = true → (U ∧ (U ∧ ((U) ∧ ((U) ∧ U) ∧ (vb false : Tm) = halterlaw12_CpuFails.R r ∧ ([] : List Box) = [])))) ∧ ((decide ((p7 t3) > (1 : Int))) = false → (U) ∧ (U) ∧ ((((p4 t3) == (4 : Int)) = true → (U) ∧ (((p4 t3) == (4 : Int)) = true ∧ (U) ∧ (((p4 t3) == (4 : Int)) = true ∧ (U) ∧ (((p4 t3) == (4 : Int)) = true ∧ (((!((intsEq t3.1 a1) && ((t3.2.1 == a2) && (((p2 t3) == a3) && ((intsEq (p3 t3) a4) && true))))) = true → (U ∧ (U ∧ ((U) ∧ ((U) ∧ U) ∧ (vb false : Tm) = halterlaw12_CpuFails.R r ∧ ([] : List Box) = [])))) ∧ ((!((intsEq t3.1 a1) && ((t3.2.1 == a2) && (((p2 t3) == a3) && ((intsEq (p3 t3) a4) && true))))) = false → ((((p8 t3) == (0 : Int)) = true → (U) ∧ (U) ∧ (((p8 t3) == (0 : Int)) = true ∧ U) ∧ (((p8 t3) == (0 : Int)) = true ∧ U) ∧ (((p8 t3) == (0 : Int)) = true ∧ U) ∧ (((p8 t3) == (0 : Int)) = true ∧ U) ∧ (((p8 t3) == (0 : Int)) = true ∧ 0 = 0 ∧ (List.length (z2 t1)) = (List.length (z2 t1))) ∧ (((p8 t3) == (0 : Int)) = true ∧ U) ∧ (((p8 t3) == (0 : Int)) = true ∧ 0 = 0 ∧ (List.length (z9 t3)) = (List.length (z9 t3))) ∧ (((p8 t3) == (0 : Int)) = true ∧ U) ∧ (((p8 t3) == (0 : Int)) = true) ∧ (((!((strOfNums (z9 t3)).toList == (strOfNums (z2 t1)).toList)) = true → (U ∧ (U ∧ ((U) ∧ ((U) ∧ U) ∧ (vb false : Tm) = halterlaw12_CpuFails.R r ∧ ([] : List Box) = [])))) ∧ ((!((strOfNums (z9 t3)).toList == (strOfNums (z2 t1)).toList)) = false → (U) ∧ (U) ∧ (((decide (a3 ≤ (31 : Int))) = true → ((decide (a3 ≤ (31 : Int))) = true ∧ (U) ∧ ((decide (a3 ≤ (31 : Int))) = true ∧ ((4 : Int) ≠ 0) ∧ ((decide (a3 ≤ (31 : Int))) = true ∧ (U) ∧ ((decide (a3 ≤ (31 : Int))) = true ∧ ((((Int.tmod a2 (4 : Int)) == (0 : Int)) = true → (((Int.tmod a2 (4 : Int)) == (0 : Int)) = true ∧ (U) ∧ (((Int.tmod a2 (4 : Int)) == (0 : Int)) = true ∧ (U) ∧ (((Int.tmod a2 (4 : Int)) == (0 : Int)) = true ∧ (U) ∧ (((Int.tmod a2 (4 : Int)) == (0 : Int)) = true ∧ (((Int.tmod a2 (4 : Int)) == (0 : Int)) = true ∧ (U) ∧ (((Int.tmod a2 (4 : Int)) == (0 : Int)) = true ∧ (U) ∧ (((Int.tmod a2 (4 : Int)) == (0 : Int)) = true ∧ (((decide ((IntKind.wrap .i64 ((IntKind.wrap .i64 (a2)) + (4 : Int))) ≤ (((List.length (z2 t1)) : Nat) : Int))) = true → (U) ∧ (U) ∧ (U) ∧ (((0 ≤ (IntKind.wrap .u32 (a2 + (4 : Int))) ∧ (IntKind.wrap .u32 (a2 + (4 : Int))) ≤ (((List.length (z2 t1)) : Nat) : Int))) ∧ ((0 ≤ a2 ∧ a2 ≤ (((Int.toNat (IntKind.wrap .u32 (a2 + (4 : Int)))) : Nat) : Int)))) ∧ (∃ t16 : Int × Int, (((0 + (Int.toNat a2)) + ((Int.toNat (IntKind.wrap .u32 (a2 + (4 : Int)))) - (Int.toNat a2)) ≤ (List.length (z2 t1))) ∧ Fun cfg 8 [.one (.fs (.int .u8) (List.take ((Int.toNat (IntKind.wrap .u32 (a2 + (4 : Int)))) - (Int.toNat a2)) (List.drop (0 + (Int.toNat a2)) (z2 t1))) false)] [] (halterref01_Load.R t16) [] ∧ U) ∧ (∃ t17 : Int × Int × Int × Int × Int, (Fun cfg 9 [.one (.sc (.int .u32 t16.1))] [] (halterref08_Decode.R t17) [] ∧ U) ∧ (U) ∧ (U) ∧ (U) ∧ (((p8 t3) == (0 : Int)) = true ∧ (((p8 t3) == (0 : Int)) = true ∧ (((p8 t3) == (0 : Int)) = true ∧ (((p8 t3) == (0 : Int)) = true ∧ (true = true ∧ (true = true ∧ (true = true ∧ (true = true ∧ (true = true ∧ (true = true ∧ (true = true ∧ (true = true ∧ (true = true ∧ (∃ t18 : Bool, (Fun cfg 10 [] [] (halterlaw12_sure.R t18) [] ∧ U) ∧ (true = true ∧ (U ∧ ((U) ∧ ((U) ∧ U) ∧ (vb t18 : Tm) = halterlaw12_CpuFails.R r ∧ ([] : List Box) = [])))))))))))))))))))) ∧ ((decide ((IntKind.wrap .i64 ((IntKind.wrap .i64 (a2)) + (4 : Int))) ≤ (((List.length (z2 t1)) : Nat) : Int))) = false → (U) ∧ (U) ∧ (((p4 t3) == (4 : Int)) = true ∧ (((p4 t3) == (4 : Int)) = true ∧ (((p4 t3) == (4 : Int)) = true ∧ (((p4 t3) == (4 : Int)) = true ∧ (U) ∧ (((p4 t3) == (4 : Int)) = true ∧ (U) ∧ (((p4 t3) == (4 : Int)) = true ∧ (((p8 t3) == (0 : Int)) = true ∧ (∃ t21 : Bool, (Fun cfg 10 [] [] (halterlaw12_sure.R t21) [] ∧ U) ∧ (((p8 t3) == (0 : Int)) = true ∧ (U ∧ ((U) ∧ ((U) ∧ U) ∧ (vb t21 : Tm) = halterlaw12_CpuFails.R r ∧ ([] : List Box) = []))))))))))))))))))))) ∧ (((Int.tmod a2 (4 : Int)) == (0 : Int)) = false → (((Int.tmod a2 (4 : Int)) == (0 : Int)) = false ∧ (((Int.tmod a2 (4 : Int)) == (0 : Int)) = false ∧ (((Int.tmod a2 (4 : Int)) == (0 : Int)) = false ∧ (((Int.tmod a2 (4 : Int)) == (0 : Int)) = false ∧ (((Int.tmod a2 (4 : Int)) == (0 : Int)) = false ∧ (((Int.tmod a2 (4 : Int)) == (0 : Int)) = false ∧ (((Int.tmod a2 (4 : Int)) == (0 : Int)) = false ∧ (false = false ∧ (U) ∧ (U) ∧ (((p4 t3) == (4 : Int)) = true ∧ (((p4 t3) == (4 : Int)) = true ∧ (((p4 t3) == (4 : Int)) = true ∧ (((p4 t3) == (4 : Int)) = true ∧ (U) ∧ (((p4 t3) == (4 : Int)) = true ∧ (U) ∧ (((p4 t3) == (4 : Int)) = true ∧ (((p8 t3) == (0 : Int)) = true ∧ (∃ t22 : Bool, (Fun cfg 10 [] [] (halterlaw12_sure.R t22) [] ∧ U) ∧ (((p8 t3) == (0 : Int)) = true ∧ (U ∧ ((U) ∧ ((U) ∧ U) ∧ (vb t22 : Tm) = halterlaw12_CpuFails.R r ∧ ([] : List Box) = [])))))))))))))))))))))))))) ∧ ((decide (a3 ≤ (31 : Int))) = false → ((decide (a3 ≤ (31 : Int))) = false ∧ ((decide (a3 ≤ (31 : Int))) = false ∧ ((decide (a3 ≤ (31 : Int))) = false ∧ ((decide (a3 ≤ (31 : Int))) = false ∧ (false = false ∧ (false = false ∧ (false = false ∧ (false = false ∧ (false = false ∧ (false = false ∧ (false = false ∧ (false = false ∧ (false = false ∧ (U) ∧ (U) ∧ (((p4 t3) == (4 : Int)) = true ∧ (((p4 t3) == (4 : Int)) = true ∧ (((p4 t3) == (4 : Int)) = true ∧ (((p4 t3) == (4 : Int)) = true ∧ (U) ∧ (((p4 t3) == (4 : Int)) = true ∧ (U) ∧ (((p4 t3) == (4 : Int)) = true ∧ (((p8 t3) == (0 : Int)) = true ∧ (∃ t23 : Bool, (Fun cfg 10 [] [] (halterlaw12_sure.R t23) [] ∧ U) ∧ (((p8 t3) == (0 : Int)) = true ∧ (U ∧ ((U) ∧ ((U) ∧ U) ∧ (vb t23 : Tm) = halterlaw12_CpuFails.R r ∧ ([] : List Box) = []))))))))))))))))))))))))))))) ∧ (((p8 t3) == (0 : Int)) = false → (U) ∧ (U) ∧ (((p8 t3) == (0 : Int)) = false) ∧ (((p8 t3) == (0 : Int)) = false) ∧ (((p8 t3) == (0 : Int)) = false) ∧ (((p8 t3) == (0 : Int)) = false) ∧ (((p8 t3) == (0 : Int)) = false) ∧ (((p8 t3) == (0 : Int)) = false) ∧ (((p8 t3) == (0 : Int)) = false) ∧ (((p8 t3) == (0 : Int)) = false) ∧ (((p8 t3) == (0 : Int)) = false) ∧ (false = false ∧ (U) ∧ (U) ∧ (((decide (a3 ≤ (31 : Int))) = true → ((decide (a3 ≤ (31 : Int))) = true ∧ (U) ∧ ((decide (a3 ≤ (31 : Int))) = true ∧ ((4 : Int) ≠ 0) ∧ ((decide (a3 ≤ (31 : Int))) = true ∧ (U) ∧ ((decide (a3 ≤ (31 : Int))) = true ∧ ((((Int.tmod a2 (4 : Int)) == (0 : Int)) = true → (((Int.tmod a2 (4 : Int)) == (0 : Int)) = true ∧ (U) ∧ (((Int.tmod a2 (4 : Int)) == (0 : Int)) = true ∧ (U) ∧ (((Int.tmod a2 (4 : Int)) == (0 : Int)) = true ∧ (U) ∧ (((Int.tmod a2 (4 : Int)) == (0 : Int)) = true ∧ (((Int.tmod a2 (4 : Int)) == (0 : Int)) = true ∧ (U) ∧ (((Int.tmod a2 (4 : Int)) == (0 : Int)) = true ∧ (U) ∧ (((Int.tmod a2 (4 : Int)) == (0 : Int)) = true ∧ (((decide ((IntKind.wrap .i64 ((IntKind.wrap .i64 (a2)) + (4 : Int))) ≤ (((List.length (z2 t1)) : Nat) : Int))) = true → (U) ∧ (U) ∧ (U) ∧ (((0 ≤ (IntKind.wrap .u32 (a2 + (4 : Int))) ∧ (IntKind.wrap .u32 (a2 + (4 : Int))) ≤ (((List.length (z2 t1)) : Nat) : Int))) ∧ ((0 ≤ a2 ∧ a2 ≤ (((Int.toNat (IntKind.wrap .u32 (a2 + (4 : Int)))) : Nat) : Int)))) ∧ (∃ t27 : Int × Int, (((0 + (Int.toNat a2)) + ((Int.toNat (IntKind.wrap .u32 (a2 + (4 : Int)))) - (Int.toNat a2)) ≤ (List.length (z2 t1))) ∧ Fun cfg 8 [.one (.fs (.int .u8) (List.take ((Int.toNat (IntKind.wrap .u32 (a2 + (4 : Int)))) - (Int.toNat a2)) (List.drop (0 + (Int.toNat a2)) (z2 t1))) false)] [] (halterref01_Load.R t27) [] ∧ U) ∧ (∃ t28 : Int × Int × Int × Int × Int, (Fun cfg 9 [.one (.sc (.int .u32 t27.1))] [] (halterref08_Decode.R t28) [] ∧ U) ∧ (U) ∧ (U) ∧ (U) ∧ (((p8 t3) == (0 : Int)) = false ∧ (((p8 t3) == (0 : Int)) = false ∧ (U) ∧ (((p8 t3) == (0 : Int)) = false ∧ (U) ∧ (((p8 t3) == (0 : Int)) = false ∧ (((t28.1 == (19 : Int)) = false → ((t28.1 == (19 : Int)) = false ∧ (U) ∧ ((t28.1 == (19 : Int)) = false ∧ (U) ∧ ((t28.1 == (19 : Int)) = false ∧ (((t28.1 == (20 : Int)) = false → ((t28.1 == (20 : Int)) = false ∧ (U) ∧ ((t28.1 == (20 : Int)) = false ∧ (U) ∧ ((t28.1 == (20 : Int)) = false ∧ (((t28.1 == (32 : Int)) = true → (∃ t34 : Bool, (Fun cfg 10 [] [] (halterlaw12_sure.R t34) [] ∧ U) ∧ ((t28.1 == (32 : Int)) = true ∧ (U ∧ ((U) ∧ ((U) ∧ U) ∧ (vb t34 : Tm) = halterlaw12_CpuFails.R r ∧ ([] : List Box) = []))))) ∧ ((t28.1 == (32 : Int)) = false → ((t28.1 == (32 : Int)) = false ∧ (U ∧ ((U) ∧ ((U) ∧ U) ∧ (vb false : Tm) = halterlaw12_CpuFails.R r ∧ ([] : List Box) = []))))))))) ∧ ((t28.1 == (20 : Int)) = true → ((t28.1 == (20 : Int)) = true ∧ ((t28.1 == (20 : Int)) = true ∧ ((t28.1 == (20 : Int)) = true ∧ (true = true ∧ (∃ t32 : Bool, (Fun cfg 10 [] [] (halterlaw12_sure.R t32) [] ∧ U) ∧ (true = true ∧ (U ∧ ((U) ∧ ((U) ∧ U) ∧ (vb t32 : Tm) = halterlaw12_CpuFails.R r ∧ ([] : List Box) = [])))))))))))))) ∧ ((t28.1 == (19 : Int)) = true → ((t28.1 == (19 : Int)) = true ∧ ((t28.1 == (19 : Int)) = true ∧ ((t28.1 == (19 : Int)) = true ∧ (true = true ∧ (true = true ∧ (true = true ∧ (true = true ∧ (true = true ∧ (∃ t30 : Bool, (Fun cfg 10 [] [] (halterlaw12_sure.R t30) [] ∧ U) ∧ (true = true ∧ (U ∧ ((U) ∧ ((U) ∧ U) ∧ (vb t30 : Tm) = halterlaw12_CpuFails.R r ∧ ([] : List Box) = []))))))))))))))))))))) ∧ ((decide ((IntKind.wrap .i64 ((IntKind.wrap .i64 (a2)) + (4 : Int))) ≤ (((List.length (z2 t1)) : Nat) : Int))) = false → (U) ∧ (U) ∧ (((p4 t3) == (4 : Int)) = true ∧ (((p4 t3) == (4 : Int)) = true ∧ (((p4 t3) == (4 : Int)) = true ∧ (((p4 t3) == (4 : Int)) = true ∧ (U) ∧ (((p4 t3) == (4 : Int)) = true ∧ (U) ∧ (((p4 t3) == (4 : Int)) = true ∧ (((p8 t3) == (0 : Int)) = false ∧ (((p8 t3) == (0 : Int)) = false ∧ (U ∧ ((U) ∧ ((U) ∧ U) ∧ (vb false : Tm) = halterlaw12_CpuFails.R r ∧ ([] : List Box) = [])))))))))))))))))))) ∧ (((Int.tmod a2 (4 : Int)) == (0 : Int)) = false → (((Int.tmod a2 (4 : Int)) == (0 : Int)) = false ∧ (((Int.tmod a2 (4 : Int)) == (0 : Int)) = false ∧ (((Int.tmod a2 (4 : Int)) == (0 : Int)) = false ∧ (((Int.tmod a2 (4 : Int)) == (0 : Int)) = false ∧ (((Int.tmod a2 (4 : Int)) == (0 : Int)) = false ∧ (((Int.tmod a2 (4 : Int)) == (0 : Int)) = false ∧ (((Int.tmod a2 (4 : Int)) == (0 : Int)) = false ∧ (false = false ∧ (U) ∧ (U) ∧ (((p4 t3) == (4 : Int)) = true ∧ (((p4 t3) == (4 : Int)) = true ∧ (((p4 t3) == (4 : Int)) = true ∧ (((p4 t3) == (4 : Int)) = true ∧ (U) ∧ (((p4 t3) == (4 : Int)) = true ∧ (U) ∧ (((p4 t3) == (4 : Int)) = true ∧ (((p8 t3) == (0 : Int)) = false ∧ (((p8 t3) == (0 : Int)) = false ∧ (U ∧ ((U) ∧ ((U) ∧ U) ∧ (vb false : Tm) = halterlaw12_CpuFails.R r ∧ ([] : List Box) = []))))))))))))))))))))))))) ∧ ((decide (a3 ≤ (31 : Int))) = false → ((decide (a3 ≤ (31 : Int))) = false ∧ ((decide (a3 ≤ (31 : Int))) = false ∧ ((decide (a3 ≤ (31 : Int))) = false ∧ ((decide (a3 ≤ (31 : Int))) = false ∧ (false = false ∧ (false = false ∧ (false = false ∧ (false = false ∧ (false = false ∧ (false = false ∧ (false = false ∧ (false = false ∧ (false = false ∧ (U) ∧ (U) ∧ (((p4 t3) == (4 : Int)) = true ∧ (((p4 t3) == (4 : Int)) = true ∧ (((p4 t3) == (4 : Int)) = true ∧ (((p4 t3) == (4 : Int)) = true ∧ (U) ∧ (((p4 t3) == (4 : Int)) = true ∧ (U) ∧ (((p4 t3) == (4 : Int)) = true ∧ (((p8 t3) == (0 : Int)) = false ∧ (((p8 t3) == (0 : Int)) = false ∧ (U ∧ ((U) ∧ ((U) ∧ U) ∧ (vb false : Tm) = halterlaw12_CpuFails.R r ∧ ([] : List Box) = [])))))))))))))))))))))))))))))))))) ∧ (((p4 t3) == (4 : Int)) = false → (((p4 t3) == (4 : Int)) = false ∧ (((p4 t3) == (4 : Int)) = false ∧ (((p4 t3) == (4 : Int)) = false ∧ (false = false ∧ ((((p8 t3) == (0 : Int)) = true → (U) ∧ (U) ∧ (((p8 t3) == (0 : Int)) = true ∧ U) ∧ (((p8 t3) == (0 : Int)) = true ∧ U) ∧ (((p8 t3) == (0 : Int)) = true ∧ U) ∧ (((p8 t3) == (0 : Int)) = true ∧ U) ∧ (((p8 t3) == (0 : Int)) = true ∧ 0 = 0 ∧ (List.length (z2 t1)) = (List.length (z2 t1))) ∧ (((p8 t3) == (0 : Int)) = true ∧ U) ∧ (((p8 t3) == (0 : Int)) = true ∧ 0 = 0 ∧ (List.length (z9 t3)) = (List.length (z9 t3))) ∧ (((p8 t3) == (0 : Int)) = true ∧ U) ∧ (((p8 t3) == (0 : Int)) = true) ∧ (((!((strOfNums (z9 t3)).toList == (strOfNums (z2 t1)).toList)) = true → (U ∧ (U ∧ ((U) ∧ ((U) ∧ U) ∧ (vb false : Tm) = halterlaw12_CpuFails.R r ∧ ([] : List Box) = [])))) ∧ ((!((strOfNums (z9 t3)).toList == (strOfNums (z2 t1)).toList)) = false → (U) ∧ (U) ∧ (((decide (a3 ≤ (31 : Int))) = true → ((decide (a3 ≤ (31 : Int))) = true ∧ (U) ∧ ((decide (a3 ≤ (31 : Int))) = true ∧ ((4 : Int) ≠ 0) ∧ ((decide (a3 ≤ (31 : Int))) = true ∧ (U) ∧ ((decide (a3 ≤ (31 : Int))) = true ∧ ((((Int.tmod a2 (4 : Int)) == (0 : Int)) = true → (((Int.tmod a2 (4 : Int)) == (0 : Int)) = true ∧ (U) ∧ (((Int.tmod a2 (4 : Int)) == (0 : Int)) = true ∧ (U) ∧ (((Int.tmod a2 (4 : Int)) == (0 : Int)) = true ∧ (U) ∧ (((Int.tmod a2 (4 : Int)) == (0 : Int)) = true ∧ (((Int.tmod a2 (4 : Int)) == (0 : Int)) = true ∧ (U) ∧ (((Int.tmod a2 (4 : Int)) == (0 : Int)) = true ∧ (U) ∧ (((Int.tmod a2 (4 : Int)) == (0 : Int)) = true ∧ (((decide ((IntKind.wrap .i64 ((IntKind.wrap .i64 (a2)) + (4 : Int))) ≤ (((List.length (z2 t1)) : Nat) : Int))) = true → (U) ∧ (U) ∧ (U) ∧ (((0 ≤ (IntKind.wrap .u32 (a2 + (4 : Int))) ∧ (IntKind.wrap .u32 (a2 + (4 : Int))) ≤ (((List.length (z2 t1)) : Nat) : Int))) ∧ ((0 ≤ a2 ∧ a2 ≤ (((Int.toNat (IntKind.wrap .u32 (a2 + (4 : Int)))) : Nat) : Int)))) ∧ (∃ t42 : Int × Int, (((0 + (Int.toNat a2)) + ((Int.toNat (IntKind.wrap .u32 (a2 + (4 : Int)))) - (Int.toNat a2)) ≤ (List.length (z2 t1))) ∧ Fun cfg 8 [.one (.fs (.int .u8) (List.take ((Int.toNat (IntKind.wrap .u32 (a2 + (4 : Int)))) - (Int.toNat a2)) (List.drop (0 + (Int.toNat a2)) (z2 t1))) false)] [] (halterref01_Load.R t42) [] ∧ U) ∧ (∃ t43 : Int × Int × Int × Int × Int, (Fun cfg 9 [.one (.sc (.int .u32 t42.1))] [] (halterref08_Decode.R t43) [] ∧ U) ∧ (U) ∧ (U) ∧ (U) ∧ (((p8 t3) == (0 : Int)) = true ∧ (((p8 t3) == (0 : Int)) = true ∧ (((p8 t3) == (0 : Int)) = true ∧ (((p8 t3) == (0 : Int)) = true ∧ (true = true ∧ (true = true ∧ (true = true ∧ (true = true ∧ (true = true ∧ (true = true ∧ (true = true ∧ (true = true ∧ (true = true ∧ (∃ t44 : Bool, (Fun cfg 10 [] [] (halterlaw12_sure.R t44) [] ∧ U) ∧ (true = true ∧ (U ∧ ((U) ∧ ((U) ∧ U) ∧ (vb t44 : Tm) = halterlaw12_CpuFails.R r ∧ ([] : List Box) = [])))))))))))))))))))) ∧ ((decide ((IntKind.wrap .i64 ((IntKind.wrap .i64 (a2)) + (4 : Int))) ≤ (((List.length (z2 t1)) : Nat) : Int))) = false → (U) ∧ (U) ∧ (((p4 t3) == (4 : Int)) = false ∧ (((p4 t3) == (4 : Int)) = false ∧ (((p4 t3) == (4 : Int)) = false ∧ (((p4 t3) == (4 : Int)) = false ∧ (((p4 t3) == (4 : Int)) = false ∧ (((p4 t3) == (4 : Int)) = false ∧ (false = false ∧ (false = false ∧ (U ∧ ((U) ∧ ((U) ∧ U) ∧ (vb false : Tm) = halterlaw12_CpuFails.R r ∧ ([] : List Box) = [])))))))))))))))))))) ∧ (((Int.tmod a2 (4 : Int)) == (0 : Int)) = false → (((Int.tmod a2 (4 : Int)) == (0 : Int)) = false ∧ (((Int.tmod a2 (4 : Int)) == (0 : Int)) = false ∧ (((Int.tmod a2 (4 : Int)) == (0 : Int)) = false ∧ (((Int.tmod a2 (4 : Int)) == (0 : Int)) = false ∧ (((Int.tmod a2 (4 : Int)) == (0 : Int)) = false ∧ (((Int.tmod a2 (4 : Int)) == (0 : Int)) = false ∧ (((Int.tmod a2 (4 : Int)) == (0 : Int)) = false ∧ (false = false ∧ (U) ∧ (U) ∧ (((p4 t3) == (4 : Int)) = false ∧ (((p4 t3) == (4 : Int)) = false ∧ (((p4 t3) == (4 : Int)) = false ∧ (((p4 t3) == (4 : Int)) = false ∧ (((p4 t3) == (4 : Int)) = false ∧ (((p4 t3) == (4 : Int)) = false ∧ (false = false ∧ (false = false ∧ (U ∧ ((U) ∧ ((U) ∧ U) ∧ (vb false : Tm) = halterlaw12_CpuFails.R r ∧ ([] : List Box) = []))))))))))))))))))))))))) ∧ ((decide (a3 ≤ (31 : Int))) = false → ((decide (a3 ≤ (31 : Int))) = false ∧ ((decide (a3 ≤ (31 : Int))) = false ∧ ((decide (a3 ≤ (31 : Int))) = false ∧ ((decide (a3 ≤ (31 : Int))) = false ∧ (false = false ∧ (false = false ∧ (false = false ∧ (false = false ∧ (false = false ∧ (false = false ∧ (false = false ∧ (false = false ∧ (false = false ∧ (U) ∧ (U) ∧ (((p4 t3) == (4 : Int)) = false ∧ (((p4 t3) == (4 : Int)) = false ∧ (((p4 t3) == (4 : Int)) = false ∧ (((p4 t3) == (4 : Int)) = false ∧ (((p4 t3) == (4 : Int)) = false ∧ (((p4 t3) == (4 : Int)) = false ∧ (false = false ∧ (false = false ∧ (U ∧ ((U) ∧ ((U) ∧ U) ∧ (vb false : Tm) = halterlaw12_CpuFails.R r ∧ ([] : List Box) = [])))))))))))))))))))))))))))) ∧ (((p8 t3) == (0 : Int)) = false → (U) ∧ (U) ∧ (((p8 t3) == (0 : Int)) = false) ∧ (((p8 t3) == (0 : Int)) = false) ∧ (((p8 t3) == (0 : Int)) = false) ∧ (((p8 t3) == (0 : Int)) = false) ∧ (((p8 t3) == (0 : Int)) = false) ∧ (((p8 t3) == (0 : Int)) = false) ∧ (((p8 t3) == (0 : Int)) = false) ∧ (((p8 t3) == (0 : Int)) = false) ∧ (((p8 t3) == (0 : Int)) = false) ∧ (false = false ∧ (U) ∧ (U) ∧ (((decide (a3 ≤ (31 : Int))) = true → ((decide (a3 ≤ (31 : Int))) = true ∧ (U) ∧ ((decide (a3 ≤ (31 : Int))) = true ∧ ((4 : Int) ≠ 0) ∧ ((decide (a3 ≤ (31 : Int))) = true ∧ (U) ∧ ((decide (a3 ≤ (31 : Int))) = true ∧ ((((Int.tmod a2 (4 : Int)) == (0 : Int)) = true → (((Int.tmod a2 (4 : Int)) == (0 : Int)) = true ∧ (U) ∧ (((Int.tmod a2 (4 : Int)) == (0 : Int)) = true ∧ (U) ∧ (((Int.tmod a2 (4 : Int)) == (0 : Int)) = true ∧ (U) ∧ (((Int.tmod a2 (4 : Int)) == (0 : Int)) = true ∧ (((Int.tmod a2 (4 : Int)) == (0 : Int)) = true ∧ (U) ∧ (((Int.tmod a2 (4 : Int)) == (0 : Int)) = true ∧ (U) ∧ (((Int.tmod a2 (4 : Int)) == (0 : Int)) = true ∧ (((decide ((IntKind.wrap .i64 ((IntKind.wrap .i64 (a2)) + (4 : Int))) ≤ (((List.length (z2 t1)) : Nat) : Int))) = true → (U) ∧ (U) ∧ (U) ∧ (((0 ≤ (IntKind.wrap .u32 (a2 + (4 : Int))) ∧ (IntKind.wrap .u32 (a2 + (4 : Int))) ≤ (((List.length (z2 t1)) : Nat) : Int))) ∧ ((0 ≤ a2 ∧ a2 ≤ (((Int.toNat (IntKind.wrap .u32 (a2 + (4 : Int)))) : Nat) : Int)))) ∧ (∃ t50 : Int × Int, (((0 + (Int.toNat a2)) + ((Int.toNat (IntKind.wrap .u32 (a2 + (4 : Int)))) - (Int.toNat a2)) ≤ (List.length (z2 t1))) ∧ Fun cfg 8 [.one (.fs (.int .u8) (List.take ((Int.toNat (IntKind.wrap .u32 (a2 + (4 : Int)))) - (Int.toNat a2)) (List.drop (0 + (Int.toNat a2)) (z2 t1))) false)] [] (halterref01_Load.R t50) [] ∧ U) ∧ (∃ t51 : Int × Int × Int × Int × Int, (Fun cfg 9 [.one (.sc (.int .u32 t50.1))] [] (halterref08_Decode.R t51) [] ∧ U) ∧ (U) ∧ (U) ∧ (U) ∧ (((p8 t3) == (0 : Int)) = false ∧ (((p8 t3) == (0 : Int)) = false ∧ (U) ∧ (((p8 t3) == (0 : Int)) = false ∧ (U) ∧ (((p8 t3) == (0 : Int)) = false ∧ (((t51.1 == (19 : Int)) = false → ((t51.1 == (19 : Int)) = false ∧ (U) ∧ ((t51.1 == (19 : Int)) = false ∧ (U) ∧ ((t51.1 == (19 : Int)) = false ∧ (((t51.1 == (20 : Int)) = false → ((t51.1 == (20 : Int)) = false ∧ (U) ∧ ((t51.1 == (20 : Int)) = false ∧ (U) ∧ ((t51.1 == (20 : Int)) = false ∧ (((t51.1 == (32 : Int)) = true → (∃ t57 : Bool, (Fun cfg 10 [] [] (halterlaw12_sure.R t57) [] ∧ U) ∧ ((t51.1 == (32 : Int)) = true ∧ (U ∧ ((U) ∧ ((U) ∧ U) ∧ (vb t57 : Tm) = halterlaw12_CpuFails.R r ∧ ([] : List Box) = []))))) ∧ ((t51.1 == (32 : Int)) = false → ((t51.1 == (32 : Int)) = false ∧ (U ∧ ((U) ∧ ((U) ∧ U) ∧ (vb false : Tm) = halterlaw12_CpuFails.R r ∧ ([] : List Box) = []))))))))) ∧ ((t51.1 == (20 : Int)) = true → ((t51.1 == (20 : Int)) = true ∧ ((t51.1 == (20 : Int)) = true ∧ ((t51.1 == (20 : Int)) = true ∧ (true = true ∧ (∃ t55 : Bool, (Fun cfg 10 [] [] (halterlaw12_sure.R t55) [] ∧ U) ∧ (true = true ∧ (U ∧ ((U) ∧ ((U) ∧ U) ∧ (vb t55 : Tm) = halterlaw12_CpuFails.R r ∧ ([] : List Box) = [])))))))))))))) ∧ ((t51.1 == (19 : Int)) = true → ((t51.1 == (19 : Int)) = true ∧ ((t51.1 == (19 : Int)) = true ∧ ((t51.1 == (19 : Int)) = true ∧ (true = true ∧ (true = true ∧ (true = true ∧ (true = true ∧ (true = true ∧ (∃ t53 : Bool, (Fun cfg 10 [] [] (halterlaw12_sure.R t53) [] ∧ U) ∧ (true = true ∧ (U ∧ ((U) ∧ ((U) ∧ U) ∧ (vb t53 : Tm) = halterlaw12_CpuFails.R r ∧ ([] : List Box) = []))))))))))))))))))))) ∧ ((decide ((IntKind.wrap .i64 ((IntKind.wrap .i64 (a2)) + (4 : Int))) ≤ (((List.length (z2 t1)) : Nat) : Int))) = false → (U) ∧ (U) ∧ (((p4 t3) == (4 : Int)) = false ∧ (((p4 t3) == (4 : Int)) = false ∧ (((p4 t3) == (4 : Int)) = false ∧ (((p4 t3) == (4 : Int)) = false ∧ (((p4 t3) == (4 : Int)) = false ∧ (((p4 t3) == (4 : Int)) = false ∧ (false = false ∧ (false = false ∧ (U ∧ ((U) ∧ ((U) ∧ U) ∧ (vb false : Tm) = halterlaw12_CpuFails.R r ∧ ([] : List Box) = [])))))))))))))))))))) ∧ (((Int.tmod a2 (4 : Int)) == (0 : Int)) = false → (((Int.tmod a2 (4 : Int)) == (0 : Int)) = false ∧ (((Int.tmod a2 (4 : Int)) == (0 : Int)) = false ∧ (((Int.tmod a2 (4 : Int)) == (0 : Int)) = false ∧ (((Int.tmod a2 (4 : Int)) == (0 : Int)) = false ∧ (((Int.tmod a2 (4 : Int)) == (0 : Int)) = false ∧ (((Int.tmod a2 (4 : Int)) == (0 : Int)) = false ∧ (((Int.tmod a2 (4 : Int)) == (0 : Int)) = false ∧ (false = false ∧ (U) ∧ (U) ∧ (((p4 t3) == (4 : Int)) = false ∧ (((p4 t3) == (4 : Int)) = false ∧ (((p4 t3) == (4 : Int)) = false ∧ (((p4 t3) == (4 : Int)) = false ∧ (((p4 t3) == (4 : Int)) = false ∧ (((p4 t3) == (4 : Int)) = false ∧ (false = false ∧ (false = false ∧ (U ∧ ((U) ∧ ((U) ∧ U) ∧ (vb false : Tm) = halterlaw12_CpuFails.R r ∧ ([] : List Box) = []))))))))))))))))))))))))) ∧ ((decide (a3 ≤ (31 : Int))) = false → ((decide (a3 ≤ (31 : Int))) = false ∧ ((decide (a3 ≤ (31 : Int))) = false ∧ ((decide (a3 ≤ (31 : Int))) = false ∧ ((decide (a3 ≤ (31 : Int))) = false ∧ (false = false ∧ (false = false ∧ (false = false ∧ (false = false ∧ (false = false ∧ (false = false ∧ (false = false ∧ (false = false ∧ (false = false ∧ (U) ∧ (U) ∧ (((p4 t3) == (4 : Int)) = false ∧ (((p4 t3) == (4 : Int)) = false ∧ (((p4 t3) == (4 : Int)) = false ∧ (((p4 t3) == (4 : Int)) = false ∧ (((p4 t3) == (4 : Int)) = false ∧ (((p4 t3) == (4 : Int)) = false ∧ (false = false ∧ (false = false ∧ (U ∧ ((U) ∧ ((U) ∧ U) ∧ (vb false : Tm) = halterlaw12_CpuFails.R r ∧ ([] : List Box) = []))))))))))))))))))))))))))))))))))))))))))))))))) (by kernel_rfl) ?_)
  obtain ⟨t1, ht1, h⟩ := of_bind h
  refine ⟨t1, ⟨halterlaw12_laid.fun_ ht1, T⟩, ?_⟩
  obtain ⟨t2, ht2, h⟩ := of_bind h
  refine ⟨t2, ⟨halterlaw12_laid.fun_ ht2, T⟩, ?_⟩
  refine tI ?_
  obtain ⟨g60, h⟩ := of_guard h
  refine ⟨g60, ?_⟩
  refine ⟨T, T, T, ?_⟩
  refine ⟨⟨T, T⟩, ?_⟩
  obtain ⟨t3, ht3, h⟩ := of_bind h
  refine ⟨t3, ⟨cpu_Step.fun_ ht3, T⟩, ?_⟩
  refine ⟨T, T, T, ?_⟩
  refine ⟨⟨T, T⟩, ?_⟩
  obtain ⟨t4, ht4, h⟩ := of_bind h
  refine ⟨t4, ⟨cpu_Step.fun_ ht4, T⟩, ?_⟩
  refine ⟨T, T, ?_⟩
  refine ⟨fun b5 => ?_, fun b5 => ?_⟩
  · rw [if_pos (and_f (fun h => (ints_f h)) (fun h => (and_f (fun h => (beq_f h)) (fun h => (and_f (fun h => (beq_f h)) (fun h => (ints_f (and_l0 h))) h)) h)) (not_t b5))] at h
    refine ⟨T, T, T, b5, b5, b5, b5, rfl, rfl, rfl, rfl, rfl, rfl, rfl, rfl, rfl, rfl, rfl, rfl, rfl, rfl, rfl, rfl, rfl, rfl, ?_⟩
    refine ⟨rfl, T, T, ?_⟩
    obtain rfl := oi h
    exact ⟨T, ⟨T, T⟩, rfl, rfl⟩
  · rw [if_neg (not_not_intro (and_t (fun h => (ints_t h)) (fun h => (and_t (fun h => (beq_t h)) (fun h => (and_t (fun h => (beq_t h)) (fun h => (ints_t (and_l h))) h)) h)) (not_f b5)))] at h
    refine ⟨fun b6 => ?_, fun b6 => ?_⟩
    · rw [if_pos (and_f (fun h => (beq_f h)) (fun h => (and_f (fun h => (beq_f h)) (fun h => (beq_f (and_l0 h))) h)) (not_t b6))] at h
      refine ⟨T, T, T, ⟨b5, T⟩, ⟨b5, T⟩, ⟨b5, T⟩, b5, b6, b6, b6, b6, b6, b6, b6, b6, b6, b6, b6, b6, rfl, rfl, rfl, rfl, rfl, rfl, ?_⟩
      refine ⟨rfl, T, T, ?_⟩
      obtain rfl := oi h
      exact ⟨T, ⟨T, T⟩, rfl, rfl⟩
    · rw [if_neg (not_not_intro (and_t (fun h => (beq_t h)) (fun h => (and_t (fun h => (beq_t h)) (fun h => (beq_t (and_l h))) h)) (not_f b6)))] at h
      refine ⟨fun b7 => ?_, fun b7 => ?_⟩
      · rw [if_pos (str_f (not_t b7))] at h
        refine ⟨T, T, T, ⟨b5, T⟩, ⟨b5, T⟩, ⟨b5, T⟩, b5, ⟨b6, T⟩, ⟨b6, T⟩, ⟨b6, T⟩, ⟨b6, T⟩, ⟨b6, T⟩, ⟨b6, T⟩, ⟨b6, T⟩, ⟨b6, ⟨rfl, rfl⟩⟩, ⟨b6, T⟩, ⟨b6, ⟨rfl, rfl⟩⟩, ⟨b6, T⟩, b6, b7, b7, b7, b7, b7, b7, ?_⟩
        refine ⟨rfl, T, T, ?_⟩
        obtain rfl := oi h
        exact ⟨T, ⟨T, T⟩, rfl, rfl⟩
      · rw [if_neg (not_not_intro (str_t (not_f b7)))] at h
        refine ⟨T, T, T, ⟨b5, T⟩, ⟨b5, T⟩, ⟨b5, T⟩, b5, ⟨b6, T⟩, ⟨b6, T⟩, ⟨b6, T⟩, ⟨b6, T⟩, ⟨b6, T⟩, ⟨b6, T⟩, ⟨b6, T⟩, ⟨b6, ⟨rfl, rfl⟩⟩, ⟨b6, T⟩, ⟨b6, ⟨rfl, rfl⟩⟩, ⟨b6, T⟩, b6, ⟨b7, T⟩, ⟨b7, T⟩, ⟨b7, T⟩, ⟨b7, T⟩, ⟨b7, T⟩, b7, ?_⟩
        refine ⟨fun b8 => ?_, fun b8 => ?_⟩
        · rw [if_pos (dT_ b8)] at h
          refine ⟨T, T, ?_⟩
          obtain rfl := oi h
          exact ⟨T, ⟨T, T⟩, rfl, rfl⟩
        · rw [if_neg (dF_ b8)] at h
          refine ⟨T, T, ?_⟩
          refine ⟨fun b9 => ?_, fun b9 => ?_⟩
          · rw [if_pos (beq_t b9)] at h
            refine tI ?_
            refine ⟨b9, ?_⟩
            refine tI ?_
            refine ⟨b9, ?_⟩
            refine tI ?_
            refine ⟨b9, ?_⟩
            refine ⟨fun b10 => ?_, fun b10 => ?_⟩
            · rw [if_pos (and_f (fun h => (ints_f h)) (fun h => (and_f (fun h => (beq_f h)) (fun h => (and_f (fun h => (beq_f h)) (fun h => (ints_f (and_l0 h))) h)) h)) (not_t b10))] at h
              refine ⟨T, T, ?_⟩
              obtain rfl := oi h
              exact ⟨T, ⟨T, T⟩, rfl, rfl⟩
            · rw [if_neg (not_not_intro (and_t (fun h => (ints_t h)) (fun h => (and_t (fun h => (beq_t h)) (fun h => (and_t (fun h => (beq_t h)) (fun h => (ints_t (and_l h))) h)) h)) (not_f b10)))] at h
              refine ⟨fun b11 => ?_, fun b11 => ?_⟩
              · rw [if_pos (beq_t b11)] at h
                refine ⟨T, T, ⟨b11, T⟩, ⟨b11, T⟩, ⟨b11, T⟩, ⟨b11, T⟩, ⟨b11, ⟨rfl, rfl⟩⟩, ⟨b11, T⟩, ⟨b11, ⟨rfl, rfl⟩⟩, ⟨b11, T⟩, b11, ?_⟩
                refine ⟨fun b12 => ?_, fun b12 => ?_⟩
                · rw [if_pos (str_f (not_t b12))] at h
                  refine ⟨T, T, ?_⟩
                  obtain rfl := oi h
                  exact ⟨T, ⟨T, T⟩, rfl, rfl⟩
                · rw [if_neg (not_not_intro (str_t (not_f b12)))] at h
                  refine ⟨T, T, ?_⟩
                  refine ⟨fun b13 => ?_, fun b13 => ?_⟩
                  · rw [if_pos (dT_ b13)] at h
                    refine ⟨b13, ?_⟩
                    refine tI ?_
                    refine ⟨b13, ?_⟩
                    refine ⟨(by decide), ?_⟩
                    refine ⟨b13, ?_⟩
                    refine tI ?_
                    refine ⟨b13, ?_⟩
                    refine ⟨fun b14 => ?_, fun b14 => ?_⟩
                    · rw [if_pos (beq_t b14)] at h
                      refine ⟨b14, ?_⟩
                      refine tI ?_
                      refine ⟨b14, ?_⟩
                      refine tI ?_
                      refine ⟨b14, ?_⟩
                      refine tI ?_
                      refine ⟨b14, ?_⟩
                      refine ⟨b14, ?_⟩
                      refine tI ?_
                      refine ⟨b14, ?_⟩
                      refine tI ?_
                      refine ⟨b14, ?_⟩
                      refine ⟨fun b15 => ?_, fun b15 => ?_⟩
                      · rw [if_pos (dT_ b15)] at h
                        refine ⟨T, T, T, ?_⟩
                        obtain ⟨g20, h⟩ := of_guard h
                        refine ⟨g20, ?_⟩
                        obtain ⟨g19, h⟩ := of_guard h
                        obtain ⟨t16, ht16, h⟩ := of_bind h
                        refine ⟨t16, ⟨g19, halterref01_Load.fun_ ht16, T⟩, ?_⟩
                        obtain ⟨t17, ht17, h⟩ := of_bind h
                        refine ⟨t17, ⟨halterref08_Decode.fun_ ht17, T⟩, ?_⟩
                        refine ⟨T, T, T, ?_⟩
                        refine ⟨b11, ?_⟩
                        refine ⟨b11, ?_⟩
                        refine ⟨b11, ?_⟩
                        refine ⟨b11, ?_⟩
                        refine ⟨rfl, rfl, rfl, rfl, rfl, rfl, rfl, rfl, rfl, ?_⟩
                        obtain ⟨t18, ht18, h⟩ := of_bind h
                        refine ⟨t18, ⟨halterlaw12_sure.fun_ ht18, T⟩, ?_⟩
                        refine ⟨rfl, T, ?_⟩
                        obtain rfl := oi h
                        exact ⟨T, ⟨T, T⟩, rfl, rfl⟩
                      · rw [if_neg (dF_ b15)] at h
                        refine ⟨T, T, ?_⟩
                        refine ⟨b9, ?_⟩
                        refine ⟨b9, ?_⟩
                        refine ⟨b9, ?_⟩
                        refine ⟨b9, ?_⟩
                        refine tI ?_
                        refine ⟨b9, ?_⟩
                        refine tI ?_
                        refine ⟨b9, ?_⟩
                        refine ⟨b11, ?_⟩
                        obtain ⟨t21, ht21, h⟩ := of_bind h
                        refine ⟨t21, ⟨halterlaw12_sure.fun_ ht21, T⟩, ?_⟩
                        refine ⟨b11, ?_⟩
                        refine tI ?_
                        obtain rfl := oi h
                        exact ⟨T, ⟨T, T⟩, rfl, rfl⟩
                    · rw [if_neg (beq_f b14)] at h
                      refine ⟨b14, ?_⟩
                      refine ⟨b14, ?_⟩
                      refine ⟨b14, ?_⟩
                      refine ⟨b14, ?_⟩
                      refine ⟨b14, ?_⟩
                      refine ⟨b14, ?_⟩
                      refine ⟨b14, ?_⟩
                      refine ⟨rfl, T, T, ?_⟩
                      refine ⟨b9, ?_⟩
                      refine ⟨b9, ?_⟩
                      refine ⟨b9, ?_⟩
                      refine ⟨b9, ?_⟩
                      refine tI ?_
                      refine ⟨b9, ?_⟩
                      refine tI ?_
                      refine ⟨b9, ?_⟩
                      refine ⟨b11, ?_⟩
                      obtain ⟨t22, ht22, h⟩ := of_bind h
                      refine ⟨t22, ⟨halterlaw12_sure.fun_ ht22, T⟩, ?_⟩
                      refine ⟨b11, ?_⟩
                      refine tI ?_
                      obtain rfl := oi h
                      exact ⟨T, ⟨T, T⟩, rfl, rfl⟩
                  · rw [if_neg (dF_ b13)] at h
                    refine ⟨b13, ?_⟩
                    refine ⟨b13, ?_⟩
                    refine ⟨b13, ?_⟩
                    refine ⟨b13, ?_⟩
                    refine ⟨rfl, rfl, rfl, rfl, rfl, rfl, rfl, rfl, rfl, T, T, ?_⟩
                    refine ⟨b9, ?_⟩
                    refine ⟨b9, ?_⟩
                    refine ⟨b9, ?_⟩
                    refine ⟨b9, ?_⟩
                    refine tI ?_
                    refine ⟨b9, ?_⟩
                    refine tI ?_
                    refine ⟨b9, ?_⟩
                    refine ⟨b11, ?_⟩
                    obtain ⟨t23, ht23, h⟩ := of_bind h
                    refine ⟨t23, ⟨halterlaw12_sure.fun_ ht23, T⟩, ?_⟩
                    refine ⟨b11, ?_⟩
                    refine tI ?_
                    obtain rfl := oi h
                    exact ⟨T, ⟨T, T⟩, rfl, rfl⟩
              · rw [if_neg (beq_f b11)] at h
                refine ⟨T, T, b11, b11, b11, b11, b11, b11, b11, b11, b11, ?_⟩
                refine ⟨rfl, T, T, ?_⟩
                refine ⟨fun b24 => ?_, fun b24 => ?_⟩
                · rw [if_pos (dT_ b24)] at h
                  refine ⟨b24, ?_⟩
                  refine tI ?_
                  refine ⟨b24, ?_⟩
                  refine ⟨(by decide), ?_⟩
                  refine ⟨b24, ?_⟩
                  refine tI ?_
                  refine ⟨b24, ?_⟩
                  refine ⟨fun b25 => ?_, fun b25 => ?_⟩
                  · rw [if_pos (beq_t b25)] at h
                    refine ⟨b25, ?_⟩
                    refine tI ?_
                    refine ⟨b25, ?_⟩
                    refine tI ?_
                    refine ⟨b25, ?_⟩
                    refine tI ?_
                    refine ⟨b25, ?_⟩
                    refine ⟨b25, ?_⟩
                    refine tI ?_
                    refine ⟨b25, ?_⟩
                    refine tI ?_
                    refine ⟨b25, ?_⟩
                    refine ⟨fun b26 => ?_, fun b26 => ?_⟩
                    · rw [if_pos (dT_ b26)] at h
                      refine ⟨T, T, T, ?_⟩
                      obtain ⟨g36, h⟩ := of_guard h
                      refine ⟨g36, ?_⟩
                      obtain ⟨g35, h⟩ := of_guard h
                      obtain ⟨t27, ht27, h⟩ := of_bind h
                      refine ⟨t27, ⟨g35, halterref01_Load.fun_ ht27, T⟩, ?_⟩
                      obtain ⟨t28, ht28, h⟩ := of_bind h
                      refine ⟨t28, ⟨halterref08_Decode.fun_ ht28, T⟩, ?_⟩
                      refine ⟨T, T, T, ?_⟩
                      refine ⟨b11, ?_⟩
                      refine ⟨b11, ?_⟩
                      refine tI ?_
                      refine ⟨b11, ?_⟩
                      refine tI ?_
                      refine ⟨b11, ?_⟩
                      refine ⟨fun b29 => ?_, fun b29 => ?_⟩
                      · rw [if_neg (beq_f b29)] at h
                        refine ⟨b29, ?_⟩
                        refine tI ?_
                        refine ⟨b29, ?_⟩
                        refine tI ?_
                        refine ⟨b29, ?_⟩
                        refine ⟨fun b31 => ?_, fun b31 => ?_⟩
                        · rw [if_neg (beq_f b31)] at h
                          refine ⟨b31, ?_⟩
                          refine tI ?_
                          refine ⟨b31, ?_⟩
                          refine tI ?_
                          refine ⟨b31, ?_⟩
                          refine ⟨fun b33 => ?_, fun b33 => ?_⟩
                          · rw [if_pos (beq_t b33)] at h
                            obtain ⟨t34, ht34, h⟩ := of_bind h
                            refine ⟨t34, ⟨halterlaw12_sure.fun_ ht34, T⟩, ?_⟩
                            refine ⟨b33, ?_⟩
                            refine tI ?_
                            obtain rfl := oi h
                            exact ⟨T, ⟨T, T⟩, rfl, rfl⟩
                          · rw [if_neg (beq_f b33)] at h
                            refine ⟨b33, ?_⟩
                            refine tI ?_
                            obtain rfl := oi h
                            exact ⟨T, ⟨T, T⟩, rfl, rfl⟩
                        · rw [if_pos (beq_t b31)] at h
                          refine ⟨b31, ?_⟩
                          refine ⟨b31, ?_⟩
                          refine ⟨b31, ?_⟩
                          refine ⟨rfl, ?_⟩
                          obtain ⟨t32, ht32, h⟩ := of_bind h
                          refine ⟨t32, ⟨halterlaw12_sure.fun_ ht32, T⟩, ?_⟩
                          refine ⟨rfl, T, ?_⟩
                          obtain rfl := oi h
                          exact ⟨T, ⟨T, T⟩, rfl, rfl⟩
                      · rw [if_pos (beq_t b29)] at h
                        refine ⟨b29, ?_⟩
                        refine ⟨b29, ?_⟩
                        refine ⟨b29, ?_⟩
                        refine ⟨rfl, rfl, rfl, rfl, rfl, ?_⟩
                        obtain ⟨t30, ht30, h⟩ := of_bind h
                        refine ⟨t30, ⟨halterlaw12_sure.fun_ ht30, T⟩, ?_⟩
                        refine ⟨rfl, T, ?_⟩
                        obtain rfl := oi h
                        exact ⟨T, ⟨T, T⟩, rfl, rfl⟩
                    · rw [if_neg (dF_ b26)] at h
                      refine ⟨T, T, ?_⟩
                      refine ⟨b9, ?_⟩
                      refine ⟨b9, ?_⟩
                      refine ⟨b9, ?_⟩
                      refine ⟨b9, ?_⟩
                      refine tI ?_
                      refine ⟨b9, ?_⟩
                      refine tI ?_
                      refine ⟨b9, ?_⟩
                      refine ⟨b11, ?_⟩
                      refine ⟨b11, ?_⟩
                      refine tI ?_
                      obtain rfl := oi h
                      exact ⟨T, ⟨T, T⟩, rfl, rfl⟩
                  · rw [if_neg (beq_f b25)] at h
                    refine ⟨b25, ?_⟩
                    refine ⟨b25, ?_⟩
                    refine ⟨b25, ?_⟩
                    refine ⟨b25, ?_⟩
                    refine ⟨b25, ?_⟩
                    refine ⟨b25, ?_⟩
                    refine ⟨b25, ?_⟩
                    refine ⟨rfl, T, T, ?_⟩
                    refine ⟨b9, ?_⟩
                    refine ⟨b9, ?_⟩
                    refine ⟨b9, ?_⟩
                    refine ⟨b9, ?_⟩
                    refine tI ?_
                    refine ⟨b9, ?_⟩
                    refine tI ?_
                    refine ⟨b9, ?_⟩
                    refine ⟨b11, ?_⟩
                    refine ⟨b11, ?_⟩
                    refine tI ?_
                    obtain rfl := oi h
                    exact ⟨T, ⟨T, T⟩, rfl, rfl⟩
                · rw [if_neg (dF_ b24)] at h
                  refine ⟨b24, ?_⟩
                  refine ⟨b24, ?_⟩
                  refine ⟨b24, ?_⟩
                  refine ⟨b24, ?_⟩
                  refine ⟨rfl, rfl, rfl, rfl, rfl, rfl, rfl, rfl, rfl, T, T, ?_⟩
                  refine ⟨b9, ?_⟩
                  refine ⟨b9, ?_⟩
                  refine ⟨b9, ?_⟩
                  refine ⟨b9, ?_⟩
                  refine tI ?_
                  refine ⟨b9, ?_⟩
                  refine tI ?_
                  refine ⟨b9, ?_⟩
                  refine ⟨b11, ?_⟩
                  refine ⟨b11, ?_⟩
                  refine tI ?_
                  obtain rfl := oi h
                  exact ⟨T, ⟨T, T⟩, rfl, rfl⟩
          · rw [if_neg (beq_f b9)] at h
            refine ⟨b9, ?_⟩
            refine ⟨b9, ?_⟩
            refine ⟨b9, ?_⟩
            refine ⟨rfl, ?_⟩
            refine ⟨fun b37 => ?_, fun b37 => ?_⟩
            · rw [if_pos (beq_t b37)] at h
              refine ⟨T, T, ⟨b37, T⟩, ⟨b37, T⟩, ⟨b37, T⟩, ⟨b37, T⟩, ⟨b37, ⟨rfl, rfl⟩⟩, ⟨b37, T⟩, ⟨b37, ⟨rfl, rfl⟩⟩, ⟨b37, T⟩, b37, ?_⟩
              refine ⟨fun b38 => ?_, fun b38 => ?_⟩
              · rw [if_pos (str_f (not_t b38))] at h
                refine ⟨T, T, ?_⟩
                obtain rfl := oi h
                exact ⟨T, ⟨T, T⟩, rfl, rfl⟩
              · rw [if_neg (not_not_intro (str_t (not_f b38)))] at h
                refine ⟨T, T, ?_⟩
                refine ⟨fun b39 => ?_, fun b39 => ?_⟩
                · rw [if_pos (dT_ b39)] at h
                  refine ⟨b39, ?_⟩
                  refine tI ?_
                  refine ⟨b39, ?_⟩
                  refine ⟨(by decide), ?_⟩
                  refine ⟨b39, ?_⟩
                  refine tI ?_
                  refine ⟨b39, ?_⟩
                  refine ⟨fun b40 => ?_, fun b40 => ?_⟩
                  · rw [if_pos (beq_t b40)] at h
                    refine ⟨b40, ?_⟩
                    refine tI ?_
                    refine ⟨b40, ?_⟩
                    refine tI ?_
                    refine ⟨b40, ?_⟩
                    refine tI ?_
                    refine ⟨b40, ?_⟩
                    refine ⟨b40, ?_⟩
                    refine tI ?_
                    refine ⟨b40, ?_⟩
                    refine tI ?_
                    refine ⟨b40, ?_⟩
                    refine ⟨fun b41 => ?_, fun b41 => ?_⟩
                    · rw [if_pos (dT_ b41)] at h
                      refine ⟨T, T, T, ?_⟩
                      obtain ⟨g46, h⟩ := of_guard h
                      refine ⟨g46, ?_⟩
                      obtain ⟨g45, h⟩ := of_guard h
                      obtain ⟨t42, ht42, h⟩ := of_bind h
                      refine ⟨t42, ⟨g45, halterref01_Load.fun_ ht42, T⟩, ?_⟩
                      obtain ⟨t43, ht43, h⟩ := of_bind h
                      refine ⟨t43, ⟨halterref08_Decode.fun_ ht43, T⟩, ?_⟩
                      refine ⟨T, T, T, ?_⟩
                      refine ⟨b37, ?_⟩
                      refine ⟨b37, ?_⟩
                      refine ⟨b37, ?_⟩
                      refine ⟨b37, ?_⟩
                      refine ⟨rfl, rfl, rfl, rfl, rfl, rfl, rfl, rfl, rfl, ?_⟩
                      obtain ⟨t44, ht44, h⟩ := of_bind h
                      refine ⟨t44, ⟨halterlaw12_sure.fun_ ht44, T⟩, ?_⟩
                      refine ⟨rfl, T, ?_⟩
                      obtain rfl := oi h
                      exact ⟨T, ⟨T, T⟩, rfl, rfl⟩
                    · rw [if_neg (dF_ b41)] at h
                      refine ⟨T, T, ?_⟩
                      refine ⟨b9, ?_⟩
                      refine ⟨b9, ?_⟩
                      refine ⟨b9, ?_⟩
                      refine ⟨b9, ?_⟩
                      refine ⟨b9, ?_⟩
                      refine ⟨b9, ?_⟩
                      refine ⟨rfl, rfl, T, ?_⟩
                      obtain rfl := oi h
                      exact ⟨T, ⟨T, T⟩, rfl, rfl⟩
                  · rw [if_neg (beq_f b40)] at h
                    refine ⟨b40, ?_⟩
                    refine ⟨b40, ?_⟩
                    refine ⟨b40, ?_⟩
                    refine ⟨b40, ?_⟩
                    refine ⟨b40, ?_⟩
                    refine ⟨b40, ?_⟩
                    refine ⟨b40, ?_⟩
                    refine ⟨rfl, T, T, ?_⟩
                    refine ⟨b9, ?_⟩
                    refine ⟨b9, ?_⟩
                    refine ⟨b9, ?_⟩
                    refine ⟨b9, ?_⟩
                    refine ⟨b9, ?_⟩
                    refine ⟨b9, ?_⟩
                    refine ⟨rfl, rfl, T, ?_⟩
                    obtain rfl := oi h
                    exact ⟨T, ⟨T, T⟩, rfl, rfl⟩
                · rw [if_neg (dF_ b39)] at h
                  refine ⟨b39, ?_⟩
                  refine ⟨b39, ?_⟩
                  refine ⟨b39, ?_⟩
                  refine ⟨b39, ?_⟩
                  refine ⟨rfl, rfl, rfl, rfl, rfl, rfl, rfl, rfl, rfl, T, T, ?_⟩
                  refine ⟨b9, ?_⟩
                  refine ⟨b9, ?_⟩
                  refine ⟨b9, ?_⟩
                  refine ⟨b9, ?_⟩
                  refine ⟨b9, ?_⟩
                  refine ⟨b9, ?_⟩
                  refine ⟨rfl, rfl, T, ?_⟩
                  obtain rfl := oi h
                  exact ⟨T, ⟨T, T⟩, rfl, rfl⟩
            · rw [if_neg (beq_f b37)] at h
              refine ⟨T, T, b37, b37, b37, b37, b37, b37, b37, b37, b37, ?_⟩
              refine ⟨rfl, T, T, ?_⟩
              refine ⟨fun b47 => ?_, fun b47 => ?_⟩
              · rw [if_pos (dT_ b47)] at h
                refine ⟨b47, ?_⟩
                refine tI ?_
                refine ⟨b47, ?_⟩
                refine ⟨(by decide), ?_⟩
                refine ⟨b47, ?_⟩
                refine tI ?_
                refine ⟨b47, ?_⟩
                refine ⟨fun b48 => ?_, fun b48 => ?_⟩
                · rw [if_pos (beq_t b48)] at h
                  refine ⟨b48, ?_⟩
                  refine tI ?_
                  refine ⟨b48, ?_⟩
                  refine tI ?_
                  refine ⟨b48, ?_⟩
                  refine tI ?_
                  refine ⟨b48, ?_⟩
                  refine ⟨b48, ?_⟩
                  refine tI ?_
                  refine ⟨b48, ?_⟩
                  refine tI ?_
                  refine ⟨b48, ?_⟩
                  refine ⟨fun b49 => ?_, fun b49 => ?_⟩
                  · rw [if_pos (dT_ b49)] at h
                    refine ⟨T, T, T, ?_⟩
                    obtain ⟨g59, h⟩ := of_guard h
                    refine ⟨g59, ?_⟩
                    obtain ⟨g58, h⟩ := of_guard h
                    obtain ⟨t50, ht50, h⟩ := of_bind h
                    refine ⟨t50, ⟨g58, halterref01_Load.fun_ ht50, T⟩, ?_⟩
                    obtain ⟨t51, ht51, h⟩ := of_bind h
                    refine ⟨t51, ⟨halterref08_Decode.fun_ ht51, T⟩, ?_⟩
                    refine ⟨T, T, T, ?_⟩
                    refine ⟨b37, ?_⟩
                    refine ⟨b37, ?_⟩
                    refine tI ?_
                    refine ⟨b37, ?_⟩
                    refine tI ?_
                    refine ⟨b37, ?_⟩
                    refine ⟨fun b52 => ?_, fun b52 => ?_⟩
                    · rw [if_neg (beq_f b52)] at h
                      refine ⟨b52, ?_⟩
                      refine tI ?_
                      refine ⟨b52, ?_⟩
                      refine tI ?_
                      refine ⟨b52, ?_⟩
                      refine ⟨fun b54 => ?_, fun b54 => ?_⟩
                      · rw [if_neg (beq_f b54)] at h
                        refine ⟨b54, ?_⟩
                        refine tI ?_
                        refine ⟨b54, ?_⟩
                        refine tI ?_
                        refine ⟨b54, ?_⟩
                        refine ⟨fun b56 => ?_, fun b56 => ?_⟩
                        · rw [if_pos (beq_t b56)] at h
                          obtain ⟨t57, ht57, h⟩ := of_bind h
                          refine ⟨t57, ⟨halterlaw12_sure.fun_ ht57, T⟩, ?_⟩
                          refine ⟨b56, ?_⟩
                          refine tI ?_
                          obtain rfl := oi h
                          exact ⟨T, ⟨T, T⟩, rfl, rfl⟩
                        · rw [if_neg (beq_f b56)] at h
                          refine ⟨b56, ?_⟩
                          refine tI ?_
                          obtain rfl := oi h
                          exact ⟨T, ⟨T, T⟩, rfl, rfl⟩
                      · rw [if_pos (beq_t b54)] at h
                        refine ⟨b54, ?_⟩
                        refine ⟨b54, ?_⟩
                        refine ⟨b54, ?_⟩
                        refine ⟨rfl, ?_⟩
                        obtain ⟨t55, ht55, h⟩ := of_bind h
                        refine ⟨t55, ⟨halterlaw12_sure.fun_ ht55, T⟩, ?_⟩
                        refine ⟨rfl, T, ?_⟩
                        obtain rfl := oi h
                        exact ⟨T, ⟨T, T⟩, rfl, rfl⟩
                    · rw [if_pos (beq_t b52)] at h
                      refine ⟨b52, ?_⟩
                      refine ⟨b52, ?_⟩
                      refine ⟨b52, ?_⟩
                      refine ⟨rfl, rfl, rfl, rfl, rfl, ?_⟩
                      obtain ⟨t53, ht53, h⟩ := of_bind h
                      refine ⟨t53, ⟨halterlaw12_sure.fun_ ht53, T⟩, ?_⟩
                      refine ⟨rfl, T, ?_⟩
                      obtain rfl := oi h
                      exact ⟨T, ⟨T, T⟩, rfl, rfl⟩
                  · rw [if_neg (dF_ b49)] at h
                    refine ⟨T, T, ?_⟩
                    refine ⟨b9, ?_⟩
                    refine ⟨b9, ?_⟩
                    refine ⟨b9, ?_⟩
                    refine ⟨b9, ?_⟩
                    refine ⟨b9, ?_⟩
                    refine ⟨b9, ?_⟩
                    refine ⟨rfl, rfl, T, ?_⟩
                    obtain rfl := oi h
                    exact ⟨T, ⟨T, T⟩, rfl, rfl⟩
                · rw [if_neg (beq_f b48)] at h
                  refine ⟨b48, ?_⟩
                  refine ⟨b48, ?_⟩
                  refine ⟨b48, ?_⟩
                  refine ⟨b48, ?_⟩
                  refine ⟨b48, ?_⟩
                  refine ⟨b48, ?_⟩
                  refine ⟨b48, ?_⟩
                  refine ⟨rfl, T, T, ?_⟩
                  refine ⟨b9, ?_⟩
                  refine ⟨b9, ?_⟩
                  refine ⟨b9, ?_⟩
                  refine ⟨b9, ?_⟩
                  refine ⟨b9, ?_⟩
                  refine ⟨b9, ?_⟩
                  refine ⟨rfl, rfl, T, ?_⟩
                  obtain rfl := oi h
                  exact ⟨T, ⟨T, T⟩, rfl, rfl⟩
              · rw [if_neg (dF_ b47)] at h
                refine ⟨b47, ?_⟩
                refine ⟨b47, ?_⟩
                refine ⟨b47, ?_⟩
                refine ⟨b47, ?_⟩
                refine ⟨rfl, rfl, rfl, rfl, rfl, rfl, rfl, rfl, rfl, T, T, ?_⟩
                refine ⟨b9, ?_⟩
                refine ⟨b9, ?_⟩
                refine ⟨b9, ?_⟩
                refine ⟨b9, ?_⟩
                refine ⟨b9, ?_⟩
                refine ⟨b9, ?_⟩
                refine ⟨rfl, rfl, T, ?_⟩
                obtain rfl := oi h
                exact ⟨T, ⟨T, T⟩, rfl, rfl⟩
end Go.Proofs.YtllannmegnklmaaGCpuFails
