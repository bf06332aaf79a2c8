/- Printed by gen.py: the next part. -/
import Derived.Test.YtllannmegnklmaaGCpuFailsp1
set_option linter.unusedVariables false
set_option maxRecDepth 100000
set_option maxHeartbeats 4000000
namespace Go.Proofs.YtllannmegnklmaaGCpuFails
open Go Go.Proofs.YtllannmegnklmaaE
theorem cm_do.fun_ {a0 : (List Int)} {a1 : Int} {a2 : Int} {a3 : (List Int)} {a4 : Int} {a5 : Int} {a6 : Int} {a7 : Int} {a8 : Int} {a9 : Int} {a10 : Int} {a11 : Int} {a12 : (List Int)} {r : (TY0) ⊕ (Int × Int × Int × (List Int))} (h : cm_do.f a0 a1 a2 a3 a4 a5 a6 a7 a8 a9 a10 a11 a12 = some r) : FunG cfg 22 [.one (.ptr 0 ⟨0, 0, 0, 0⟩)] (kB0 a0 a1 a2 a3 a4 a5 a6 a7 a8 a9 a12 a10 a11) (cm_do.P r) (cm_do.R r) (cm_do.B a0 a1 a2 a3 a4 a5 a6 a7 a8 a9 a10 a11 a12 r) := by
  unfold cm_do.f at h
  refine funG_of_run cfg_ok (f := 22) (fn := Try.f22) Try.func22 rfl (by kernel_rfl) (rs := []) rfl (nt := 85) rfl (l := fin) (ho := cm_do.P_ r) (k := (.br (aE 2 .nil) (.br (aE 2 .nil) (.br (aE 2 .nil) (.br (oT 12 (.callR true [] [0, 1, 2] ((List Int)) (fun t5 => (cm_lay.R t5)) (fun t5 => (cm_lay.B a0 a1 a2 a3 a4 a5 a6 a7 a8 a9 a10 a11 a12 t5)) (fun t5 => (.adj [] .nil)))) (oF 2 (.br (oT 9 (.callR true [] [0, 1, 2] ((List Int)) (fun t7 => (cm_lay.R t7)) (fun t7 => (cm_lay.B a0 a1 a2 a3 a4 a5 a6 a7 a8 a9 a10 a11 a12 t7)) (fun t7 => (.adj [] .nil)))) (oF 2 (.br (oT 6 (.callR true [] [0, 1, 2] ((List Int)) (fun t9 => (cm_lay.R t9)) (fun t9 => (cm_lay.B a0 a1 a2 a3 a4 a5 a6 a7 a8 a9 a10 a11 a12 t9)) (fun t9 => (.adj [] .nil)))) (oF 2 (.br (oT 3 (.callR true [] [0, 1, 2] ((List Int)) (fun t11 => (cm_lay.R t11)) (fun t11 => (cm_lay.B a0 a1 a2 a3 a4 a5 a6 a7 a8 a9 a10 a11 a12 t11)) (fun t11 => (.adj [] .nil)))) (oF 2 (.br (.callR true [] [0, 1, 2] ((List Int)) (fun t13 => (cm_lay.R t13)) (fun t13 => (cm_lay.B a0 a1 a2 a3 a4 a5 a6 a7 a8 a9 a10 a11 a12 t13)) (fun t13 => (.adj [] .nil))) (.br (oT 2 (.br (oT 3 (.orx (.callX true [] [0, 1, 2] (Int × Int) (fun t17 => (.iface 64 (.agg #[.int .i64 t17.1, .int .u32 t17.2]))) (fun t17 => (cm_reckon.B a0 a1 a2 a3 a4 a5 a6 a7 a8 a9 a10 a11 a12 (.inl t17))) (fun t17 => (.adj [] .nil))) (.callR true [] [0, 1, 2] ((List Int) × Int) (fun t18 => (cm_reckon.R (.inr t18))) (fun t18 => (cm_reckon.B a0 a1 a2 a3 a4 a5 a6 a7 a8 a9 a10 a11 a12 (.inr t18))) (fun t18 => (.adj [] .nil))))) (oF 2 (.br (.orx (.callX true [] [0, 1, 2] (Int × Int) (fun t21 => (.iface 64 (.agg #[.int .i64 t21.1, .int .u32 t21.2]))) (fun t21 => (cm_reckon.B a0 a1 a2 a3 a4 a5 a6 a7 a8 a9 a10 a11 a12 (.inl t21))) (fun t21 => (.adj [] .nil))) (.callR true [] [0, 1, 2] ((List Int) × Int) (fun t22 => (cm_reckon.R (.inr t22))) (fun t22 => (cm_reckon.B a0 a1 a2 a3 a4 a5 a6 a7 a8 a9 a10 a11 a12 (.inr t22))) (fun t22 => (.adj [] .nil)))) (.br (oT 2 (.br (oT 6 (.orx (.callX true [] [0, 1, 2] (Int × Int × Int × (List Int)) (fun t27 => (.iface 64 (.agg #[.int .i64 t27.1, .int .u32 t27.2.1]))) (fun t27 => (cm_move.B a0 a1 a2 a3 a4 a5 a6 a7 a8 a9 a10 a11 a12 (.inr t27))) (fun t27 => (.adj [] .nil))) (.callR true [] [0, 1, 2] ((List Int) × (List Int) × Int × (List Int)) (fun t26 => (cm_move.R (.inl t26))) (fun t26 => (cm_move.B a0 a1 a2 a3 a4 a5 a6 a7 a8 a9 a10 a11 a12 (.inl t26))) (fun t26 => (.adj [] .nil))))) (oF 2 (.br (oT 3 (.orx (.callX true [] [0, 1, 2] (Int × Int × Int × (List Int)) (fun t31 => (.iface 64 (.agg #[.int .i64 t31.1, .int .u32 t31.2.1]))) (fun t31 => (cm_move.B a0 a1 a2 a3 a4 a5 a6 a7 a8 a9 a10 a11 a12 (.inr t31))) (fun t31 => (.adj [] .nil))) (.callR true [] [0, 1, 2] ((List Int) × (List Int) × Int × (List Int)) (fun t30 => (cm_move.R (.inl t30))) (fun t30 => (cm_move.B a0 a1 a2 a3 a4 a5 a6 a7 a8 a9 a10 a11 a12 (.inl t30))) (fun t30 => (.adj [] .nil))))) (oF 2 (.br (.orx (.callX true [] [0, 1, 2] (Int × Int × Int × (List Int)) (fun t35 => (.iface 64 (.agg #[.int .i64 t35.1, .int .u32 t35.2.1]))) (fun t35 => (cm_move.B a0 a1 a2 a3 a4 a5 a6 a7 a8 a9 a10 a11 a12 (.inr t35))) (fun t35 => (.adj [] .nil))) (.callR true [] [0, 1, 2] ((List Int) × (List Int) × Int × (List Int)) (fun t34 => (cm_move.R (.inl t34))) (fun t34 => (cm_move.B a0 a1 a2 a3 a4 a5 a6 a7 a8 a9 a10 a11 a12 (.inl t34))) (fun t34 => (.adj [] .nil)))) (.br (oT 2 (.br (.orx (.callX true [] [0, 1, 2] (Int × Int) (fun t40 => (.iface 64 (.agg #[.int .i64 t40.1, .int .u32 t40.2]))) (fun t40 => (cm_leap.B a0 a1 a2 a3 a4 a5 a6 a7 a8 a9 a10 a11 a12 (.inr t40))) (fun t40 => (.adj [] .nil))) (.callR true [] [0, 1, 2] ((List Int) × Int) (fun t39 => (cm_leap.R (.inl t39))) (fun t39 => (cm_leap.B a0 a1 a2 a3 a4 a5 a6 a7 a8 a9 a10 a11 a12 (.inl t39))) (fun t39 => (.adj [] .nil)))) (.orx (.callX true [] [0, 1, 2] (Int × Int) (fun t42 => (.iface 64 (.agg #[.int .i64 t42.1, .int .u32 t42.2]))) (fun t42 => (cm_floats.B a0 a1 a2 a3 a4 a5 a6 a7 a8 a9 a10 a11 a12 (.inl t42))) (fun t42 => (.adj [] .nil))) (.callR true [] [0, 1, 2] ((List Int) × Int × (List Int)) (fun t43 => (cm_floats.R (.inr t43))) (fun t43 => (cm_floats.B a0 a1 a2 a3 a4 a5 a6 a7 a8 a9 a10 a11 a12 (.inr t43))) (fun t43 => (.adj [] .nil)))))) (oF 3 (.orx (.callX true [] [0, 1, 2] (Int × Int) (fun t45 => (.iface 64 (.agg #[.int .i64 t45.1, .int .u32 t45.2]))) (fun t45 => (cm_floats.B a0 a1 a2 a3 a4 a5 a6 a7 a8 a9 a10 a11 a12 (.inl t45))) (fun t45 => (.adj [] .nil))) (.callR true [] [0, 1, 2] ((List Int) × Int × (List Int)) (fun t46 => (cm_floats.R (.inr t46))) (fun t46 => (cm_floats.B a0 a1 a2 a3 a4 a5 a6 a7 a8 a9 a10 a11 a12 (.inr t46))) (fun t46 => (.adj [] .nil)))))))))))) (oF 5 (.br (oT 3 (.orx (.callX true [] [0, 1, 2] (Int × Int × Int × (List Int)) (fun t50 => (.iface 64 (.agg #[.int .i64 t50.1, .int .u32 t50.2.1]))) (fun t50 => (cm_move.B a0 a1 a2 a3 a4 a5 a6 a7 a8 a9 a10 a11 a12 (.inr t50))) (fun t50 => (.adj [] .nil))) (.callR true [] [0, 1, 2] ((List Int) × (List Int) × Int × (List Int)) (fun t49 => (cm_move.R (.inl t49))) (fun t49 => (cm_move.B a0 a1 a2 a3 a4 a5 a6 a7 a8 a9 a10 a11 a12 (.inl t49))) (fun t49 => (.adj [] .nil))))) (oF 2 (.br (.orx (.callX true [] [0, 1, 2] (Int × Int × Int × (List Int)) (fun t54 => (.iface 64 (.agg #[.int .i64 t54.1, .int .u32 t54.2.1]))) (fun t54 => (cm_move.B a0 a1 a2 a3 a4 a5 a6 a7 a8 a9 a10 a11 a12 (.inr t54))) (fun t54 => (.adj [] .nil))) (.callR true [] [0, 1, 2] ((List Int) × (List Int) × Int × (List Int)) (fun t53 => (cm_move.R (.inl t53))) (fun t53 => (cm_move.B a0 a1 a2 a3 a4 a5 a6 a7 a8 a9 a10 a11 a12 (.inl t53))) (fun t53 => (.adj [] .nil)))) (.br (oT 2 (.br (.orx (.callX true [] [0, 1, 2] (Int × Int) (fun t59 => (.iface 64 (.agg #[.int .i64 t59.1, .int .u32 t59.2]))) (fun t59 => (cm_leap.B a0 a1 a2 a3 a4 a5 a6 a7 a8 a9 a10 a11 a12 (.inr t59))) (fun t59 => (.adj [] .nil))) (.callR true [] [0, 1, 2] ((List Int) × Int) (fun t58 => (cm_leap.R (.inl t58))) (fun t58 => (cm_leap.B a0 a1 a2 a3 a4 a5 a6 a7 a8 a9 a10 a11 a12 (.inl t58))) (fun t58 => (.adj [] .nil)))) (.orx (.callX true [] [0, 1, 2] (Int × Int) (fun t61 => (.iface 64 (.agg #[.int .i64 t61.1, .int .u32 t61.2]))) (fun t61 => (cm_floats.B a0 a1 a2 a3 a4 a5 a6 a7 a8 a9 a10 a11 a12 (.inl t61))) (fun t61 => (.adj [] .nil))) (.callR true [] [0, 1, 2] ((List Int) × Int × (List Int)) (fun t62 => (cm_floats.R (.inr t62))) (fun t62 => (cm_floats.B a0 a1 a2 a3 a4 a5 a6 a7 a8 a9 a10 a11 a12 (.inr t62))) (fun t62 => (.adj [] .nil)))))) (oF 3 (.orx (.callX true [] [0, 1, 2] (Int × Int) (fun t64 => (.iface 64 (.agg #[.int .i64 t64.1, .int .u32 t64.2]))) (fun t64 => (cm_floats.B a0 a1 a2 a3 a4 a5 a6 a7 a8 a9 a10 a11 a12 (.inl t64))) (fun t64 => (.adj [] .nil))) (.callR true [] [0, 1, 2] ((List Int) × Int × (List Int)) (fun t65 => (cm_floats.R (.inr t65))) (fun t65 => (cm_floats.B a0 a1 a2 a3 a4 a5 a6 a7 a8 a9 a10 a11 a12 (.inr t65))) (fun t65 => (.adj [] .nil))))))))))))))) (oF 5 (.br (.orx (.callX true [] [0, 1, 2] (Int × Int) (fun t68 => (.iface 64 (.agg #[.int .i64 t68.1, .int .u32 t68.2]))) (fun t68 => (cm_reckon.B a0 a1 a2 a3 a4 a5 a6 a7 a8 a9 a10 a11 a12 (.inl t68))) (fun t68 => (.adj [] .nil))) (.callR true [] [0, 1, 2] ((List Int) × Int) (fun t69 => (cm_reckon.R (.inr t69))) (fun t69 => (cm_reckon.B a0 a1 a2 a3 a4 a5 a6 a7 a8 a9 a10 a11 a12 (.inr t69))) (fun t69 => (.adj [] .nil)))) (.br (oT 2 (.br (oT 6 (.orx (.callX true [] [0, 1, 2] (Int × Int × Int × (List Int)) (fun t74 => (.iface 64 (.agg #[.int .i64 t74.1, .int .u32 t74.2.1]))) (fun t74 => (cm_move.B a0 a1 a2 a3 a4 a5 a6 a7 a8 a9 a10 a11 a12 (.inr t74))) (fun t74 => (.adj [] .nil))) (.callR true [] [0, 1, 2] ((List Int) × (List Int) × Int × (List Int)) (fun t73 => (cm_move.R (.inl t73))) (fun t73 => (cm_move.B a0 a1 a2 a3 a4 a5 a6 a7 a8 a9 a10 a11 a12 (.inl t73))) (fun t73 => (.adj [] .nil))))) (oF 2 (.br (oT 3 (.orx (.callX true [] [0, 1, 2] (Int × Int × Int × (List Int)) (fun t78 => (.iface 64 (.agg #[.int .i64 t78.1, .int .u32 t78.2.1]))) (fun t78 => (cm_move.B a0 a1 a2 a3 a4 a5 a6 a7 a8 a9 a10 a11 a12 (.inr t78))) (fun t78 => (.adj [] .nil))) (.callR true [] [0, 1, 2] ((List Int) × (List Int) × Int × (List Int)) (fun t77 => (cm_move.R (.inl t77))) (fun t77 => (cm_move.B a0 a1 a2 a3 a4 a5 a6 a7 a8 a9 a10 a11 a12 (.inl t77))) (fun t77 => (.adj [] .nil))))) (oF 2 (.br (.orx (.callX true [] [0, 1, 2] (Int × Int × Int × (List Int)) (fun t82 => (.iface 64 (.agg #[.int .i64 t82.1, .int .u32 t82.2.1]))) (fun t82 => (cm_move.B a0 a1 a2 a3 a4 a5 a6 a7 a8 a9 a10 a11 a12 (.inr t82))) (fun t82 => (.adj [] .nil))) (.callR true [] [0, 1, 2] ((List Int) × (List Int) × Int × (List Int)) (fun t81 => (cm_move.R (.inl t81))) (fun t81 => (cm_move.B a0 a1 a2 a3 a4 a5 a6 a7 a8 a9 a10 a11 a12 (.inl t81))) (fun t81 => (.adj [] .nil)))) (.br (oT 2 (.br (.orx (.callX true [] [0, 1, 2] (Int × Int) (fun t87 => (.iface 64 (.agg #[.int .i64 t87.1, .int .u32 t87.2]))) (fun t87 => (cm_leap.B a0 a1 a2 a3 a4 a5 a6 a7 a8 a9 a10 a11 a12 (.inr t87))) (fun t87 => (.adj [] .nil))) (.callR true [] [0, 1, 2] ((List Int) × Int) (fun t86 => (cm_leap.R (.inl t86))) (fun t86 => (cm_leap.B a0 a1 a2 a3 a4 a5 a6 a7 a8 a9 a10 a11 a12 (.inl t86))) (fun t86 => (.adj [] .nil)))) (.orx (.callX true [] [0, 1, 2] (Int × Int) (fun t89 => (.iface 64 (.agg #[.int .i64 t89.1, .int .u32 t89.2]))) (fun t89 => (cm_floats.B a0 a1 a2 a3 a4 a5 a6 a7 a8 a9 a10 a11 a12 (.inl t89))) (fun t89 => (.adj [] .nil))) (.callR true [] [0, 1, 2] ((List Int) × Int × (List Int)) (fun t90 => (cm_floats.R (.inr t90))) (fun t90 => (cm_floats.B a0 a1 a2 a3 a4 a5 a6 a7 a8 a9 a10 a11 a12 (.inr t90))) (fun t90 => (.adj [] .nil)))))) (oF 3 (.orx (.callX true [] [0, 1, 2] (Int × Int) (fun t92 => (.iface 64 (.agg #[.int .i64 t92.1, .int .u32 t92.2]))) (fun t92 => (cm_floats.B a0 a1 a2 a3 a4 a5 a6 a7 a8 a9 a10 a11 a12 (.inl t92))) (fun t92 => (.adj [] .nil))) (.callR true [] [0, 1, 2] ((List Int) × Int × (List Int)) (fun t93 => (cm_floats.R (.inr t93))) (fun t93 => (cm_floats.B a0 a1 a2 a3 a4 a5 a6 a7 a8 a9 a10 a11 a12 (.inr t93))) (fun t93 => (.adj [] .nil)))))))))))) (oF 5 (.br (oT 3 (.orx (.callX true [] [0, 1, 2] (Int × Int × Int × (List Int)) (fun t97 => (.iface 64 (.agg #[.int .i64 t97.1, .int .u32 t97.2.1]))) (fun t97 => (cm_move.B a0 a1 a2 a3 a4 a5 a6 a7 a8 a9 a10 a11 a12 (.inr t97))) (fun t97 => (.adj [] .nil))) (.callR true [] [0, 1, 2] ((List Int) × (List Int) × Int × (List Int)) (fun t96 => (cm_move.R (.inl t96))) (fun t96 => (cm_move.B a0 a1 a2 a3 a4 a5 a6 a7 a8 a9 a10 a11 a12 (.inl t96))) (fun t96 => (.adj [] .nil))))) (oF 2 (.br (.orx (.callX true [] [0, 1, 2] (Int × Int × Int × (List Int)) (fun t101 => (.iface 64 (.agg #[.int .i64 t101.1, .int .u32 t101.2.1]))) (fun t101 => (cm_move.B a0 a1 a2 a3 a4 a5 a6 a7 a8 a9 a10 a11 a12 (.inr t101))) (fun t101 => (.adj [] .nil))) (.callR true [] [0, 1, 2] ((List Int) × (List Int) × Int × (List Int)) (fun t100 => (cm_move.R (.inl t100))) (fun t100 => (cm_move.B a0 a1 a2 a3 a4 a5 a6 a7 a8 a9 a10 a11 a12 (.inl t100))) (fun t100 => (.adj [] .nil)))) (.br (oT 2 (.br (.orx (.callX true [] [0, 1, 2] (Int × Int) (fun t106 => (.iface 64 (.agg #[.int .i64 t106.1, .int .u32 t106.2]))) (fun t106 => (cm_leap.B a0 a1 a2 a3 a4 a5 a6 a7 a8 a9 a10 a11 a12 (.inr t106))) (fun t106 => (.adj [] .nil))) (.callR true [] [0, 1, 2] ((List Int) × Int) (fun t105 => (cm_leap.R (.inl t105))) (fun t105 => (cm_leap.B a0 a1 a2 a3 a4 a5 a6 a7 a8 a9 a10 a11 a12 (.inl t105))) (fun t105 => (.adj [] .nil)))) (.orx (.callX true [] [0, 1, 2] (Int × Int) (fun t108 => (.iface 64 (.agg #[.int .i64 t108.1, .int .u32 t108.2]))) (fun t108 => (cm_floats.B a0 a1 a2 a3 a4 a5 a6 a7 a8 a9 a10 a11 a12 (.inl t108))) (fun t108 => (.adj [] .nil))) (.callR true [] [0, 1, 2] ((List Int) × Int × (List Int)) (fun t109 => (cm_floats.R (.inr t109))) (fun t109 => (cm_floats.B a0 a1 a2 a3 a4 a5 a6 a7 a8 a9 a10 a11 a12 (.inr t109))) (fun t109 => (.adj [] .nil)))))) (oF 3 (.orx (.callX true [] [0, 1, 2] (Int × Int) (fun t111 => (.iface 64 (.agg #[.int .i64 t111.1, .int .u32 t111.2]))) (fun t111 => (cm_floats.B a0 a1 a2 a3 a4 a5 a6 a7 a8 a9 a10 a11 a12 (.inl t111))) (fun t111 => (.adj [] .nil))) (.callR true [] [0, 1, 2] ((List Int) × Int × (List Int)) (fun t112 => (cm_floats.R (.inr t112))) (fun t112 => (cm_floats.B a0 a1 a2 a3 a4 a5 a6 a7 a8 a9 a10 a11 a12 (.inr t112))) (fun t112 => (.adj [] .nil))))))))))))))))))))))))))) (to_goal (q := (U) ∧ (U) ∧ (((a4 == (0 : Int)) = true → (U ∧ (cm_do.P r = false ∧ (U) ∧ (U) ∧ (.tup [] : Tm) = cm_do.R r ∧ ([(cm_do.c0 a0 a1 a2 a3 a4 a5 a6 a7 a8 a9), .ex false [.c (.os 2 0 0 1 (List.length a12) none), .c (.sc (.int .i64 a10)), .c (.sc (.int .i64 a11))] 33, .fix false (.int .u8) a12 5] : List Box) = cm_do.B a0 a1 a2 a3 a4 a5 a6 a7 a8 a9 a10 a11 a12 r))) ∧ ((a4 == (0 : Int)) = false → (U) ∧ (((a4 == (29 : Int)) = true → (U ∧ (U) ∧ (cm_do.P r = false ∧ (U) ∧ (U) ∧ (.tup [] : Tm) = cm_do.R r ∧ ([.ex false [.c (.ip 29 1), .row 16 (.int .u32) a0, .c (.sc (.int .u32 a1)), .c (.sc (.int .u32 a2)), .row 4 (.int .u64) a3, .c (.sc (.int .i64 a4)), .c (.sc (.int .i64 a5)), .c (.sc (.int .i64 a6)), .c (.sc (.int .i64 a7)), .c (.sc (.int .u32 a8)), .c (.sc (.int .i64 (1 : Int)))] 62, .ex false [.c (.os 2 0 0 1 (List.length a12) none), .c (.sc (.int .i64 a10)), .c (.sc (.int .i64 a11))] 33, .fix false (.int .u8) a12 5] : List Box) = cm_do.B a0 a1 a2 a3 a4 a5 a6 a7 a8 a9 a10 a11 a12 r))) ∧ ((a4 == (29 : Int)) = false → (U) ∧ (((a4 == (30 : Int)) = true → (U ∧ (U) ∧ (cm_do.P r = false ∧ (U) ∧ (U) ∧ (.tup [] : Tm) = cm_do.R r ∧ ([.ex false [.c (.ip 29 1), .row 16 (.int .u32) a0, .c (.sc (.int .u32 a1)), .c (.sc (.int .u32 a2)), .row 4 (.int .u64) a3, .c (.sc (.int .i64 a4)), .c (.sc (.int .i64 a5)), .c (.sc (.int .i64 a6)), .c (.sc (.int .i64 a7)), .c (.sc (.int .u32 a8)), .c (.sc (.int .i64 (2 : Int)))] 62, .ex false [.c (.os 2 0 0 1 (List.length a12) none), .c (.sc (.int .i64 a10)), .c (.sc (.int .i64 a11))] 33, .fix false (.int .u8) a12 5] : List Box) = cm_do.B a0 a1 a2 a3 a4 a5 a6 a7 a8 a9 a10 a11 a12 r))) ∧ ((a4 == (30 : Int)) = false → (U) ∧ (((a4 == (1 : Int)) = false → ((a4 == (1 : Int)) = false ∧ (U) ∧ ((a4 == (1 : Int)) = false ∧ (((a4 == (2 : Int)) = false → ((a4 == (2 : Int)) = false ∧ (U) ∧ ((a4 == (2 : Int)) = false ∧ (((a4 == (3 : Int)) = false → ((a4 == (3 : Int)) = false ∧ (U) ∧ ((a4 == (3 : Int)) = false ∧ (((a4 == (15 : Int)) = false → ((a4 == (15 : Int)) = false ∧ (U) ∧ ((a4 == (15 : Int)) = false ∧ (((a4 == (41 : Int)) = true → (∃ t13 : (List Int), (Fun cfg 24 [.one (.ptr 0 ⟨0, 0, 0, 0⟩)] [(cm_do.c0 a0 a1 a2 a3 a4 a5 a6 a7 a8 a9), .ex false [.c (.os 2 0 0 1 (List.length a12) none), .c (.sc (.int .i64 a10)), .c (.sc (.int .i64 a11))] 33, .fix false (.int .u8) a12 5] (cm_lay.R t13) (cm_lay.B a0 a1 a2 a3 a4 a5 a6 a7 a8 a9 a10 a11 a12 t13) ∧ U) ∧ (cm_do.P r = false ∧ (U) ∧ (U) ∧ (.tup [] : Tm) = cm_do.R r ∧ ([.ex false [.c (.ip 29 1), .row 16 (.int .u32) t13, .c (.sc (.int .u32 a1)), .c (.sc (.int .u32 a2)), .row 4 (.int .u64) a3, .c (.sc (.int .i64 a4)), .c (.sc (.int .i64 a5)), .c (.sc (.int .i64 a6)), .c (.sc (.int .i64 a7)), .c (.sc (.int .u32 a8)), .c (.sc (.int .i64 a9))] 62, .ex false [.c (.os 2 0 0 1 (List.length a12) none), .c (.sc (.int .i64 a10)), .c (.sc (.int .i64 a11))] 33, .fix false (.int .u8) a12 5] : List Box) = cm_do.B a0 a1 a2 a3 a4 a5 a6 a7 a8 a9 a10 a11 a12 r))) ∧ ((a4 == (41 : Int)) = false → (U) ∧ (((decide (a4 ≥ (4 : Int))) = true → ((decide (a4 ≥ (4 : Int))) = true ∧ (U) ∧ ((decide (a4 ≥ (4 : Int))) = true ∧ (((decide (a4 ≤ (14 : Int))) = false → ((decide (a4 ≤ (14 : Int))) = false ∧ (U) ∧ ((decide (a4 ≤ (14 : Int))) = false ∧ (((a4 == (16 : Int)) = true → ((∃ t21 : Int × Int, (FunX cfg 25 [.one (.ptr 0 ⟨0, 0, 0, 0⟩)] [(cm_do.c0 a0 a1 a2 a3 a4 a5 a6 a7 a8 a9), .ex false [.c (.os 2 0 0 1 (List.length a12) none), .c (.sc (.int .i64 a10)), .c (.sc (.int .i64 a11))] 33, .fix false (.int .u8) a12 5] (.iface 64 (.agg #[.int .i64 t21.1, .int .u32 t21.2])) (cm_reckon.B a0 a1 a2 a3 a4 a5 a6 a7 a8 a9 a10 a11 a12 (.inl t21)) ∧ U) ∧ (cm_do.P r = true ∧ (U) ∧ (.v (.one (.sc (.iface 64 (.agg #[.int .i64 t21.1, .int .u32 t21.2])))) : Tm) = cm_do.R r ∧ ([(cm_do.c0 a0 a1 a2 a3 a4 a5 a6 a7 a8 a9), .ex false [.c (.os 2 0 0 1 (List.length a12) none), .c (.sc (.int .i64 a10)), .c (.sc (.int .i64 a11))] 33, .fix false (.int .u8) a12 5] : List Box) = cm_do.B a0 a1 a2 a3 a4 a5 a6 a7 a8 a9 a10 a11 a12 r)) ∨ (∃ t22 : (List Int) × Int, (Fun cfg 25 [.one (.ptr 0 ⟨0, 0, 0, 0⟩)] [(cm_do.c0 a0 a1 a2 a3 a4 a5 a6 a7 a8 a9), .ex false [.c (.os 2 0 0 1 (List.length a12) none), .c (.sc (.int .i64 a10)), .c (.sc (.int .i64 a11))] 33, .fix false (.int .u8) a12 5] (cm_reckon.R (.inr t22)) (cm_reckon.B a0 a1 a2 a3 a4 a5 a6 a7 a8 a9 a10 a11 a12 (.inr t22)) ∧ U) ∧ (cm_do.P r = false ∧ (U) ∧ (U) ∧ (.tup [] : Tm) = cm_do.R r ∧ ([.ex false [.c (.ip 29 1), .row 16 (.int .u32) t22.1, .c (.sc (.int .u32 a1)), .c (.sc (.int .u32 t22.2)), .row 4 (.int .u64) a3, .c (.sc (.int .i64 a4)), .c (.sc (.int .i64 a5)), .c (.sc (.int .i64 a6)), .c (.sc (.int .i64 a7)), .c (.sc (.int .u32 a8)), .c (.sc (.int .i64 a9))] 62, .ex false [.c (.os 2 0 0 1 (List.length a12) none), .c (.sc (.int .i64 a10)), .c (.sc (.int .i64 a11))] 33, .fix false (.int .u8) a12 5] : List Box) = cm_do.B a0 a1 a2 a3 a4 a5 a6 a7 a8 a9 a10 a11 a12 r)))) ∧ ((a4 == (16 : Int)) = false → (U) ∧ (((decide (a4 ≥ (17 : Int))) = true → ((decide (a4 ≥ (17 : Int))) = true ∧ (U) ∧ ((decide (a4 ≥ (17 : Int))) = true ∧ (((decide (a4 ≤ (20 : Int))) = false → ((decide (a4 ≤ (20 : Int))) = false ∧ (U) ∧ ((decide (a4 ≤ (20 : Int))) = false ∧ (((a4 == (31 : Int)) = false → ((a4 == (31 : Int)) = false ∧ (U) ∧ ((a4 == (31 : Int)) = false ∧ (((a4 == (32 : Int)) = true → ((∃ t35 : Int × Int × Int × (List Int), (FunX cfg 26 [.one (.ptr 0 ⟨0, 0, 0, 0⟩)] [(cm_do.c0 a0 a1 a2 a3 a4 a5 a6 a7 a8 a9), .ex false [.c (.os 2 0 0 1 (List.length a12) none), .c (.sc (.int .i64 a10)), .c (.sc (.int .i64 a11))] 33, .fix false (.int .u8) a12 5] (.iface 64 (.agg #[.int .i64 t35.1, .int .u32 t35.2.1])) (cm_move.B a0 a1 a2 a3 a4 a5 a6 a7 a8 a9 a10 a11 a12 (.inr t35)) ∧ U) ∧ (cm_do.P r = true ∧ (U) ∧ (.v (.one (.sc (.iface 64 (.agg #[.int .i64 t35.1, .int .u32 t35.2.1])))) : Tm) = cm_do.R r ∧ ([(cm_do.c0 a0 a1 a2 a3 a4 a5 a6 a7 a8 a9), .ex false [.c (.os 2 0 0 1 (List.length (z3 t35)) none), .c (.sc (.int .i64 a10)), .c (.sc (.int .i64 (p2 t35)))] 33, .fix false (.int .u8) (z3 t35) 5] : List Box) = cm_do.B a0 a1 a2 a3 a4 a5 a6 a7 a8 a9 a10 a11 a12 r)) ∨ (∃ t34 : (List Int) × (List Int) × Int × (List Int), (Fun cfg 26 [.one (.ptr 0 ⟨0, 0, 0, 0⟩)] [(cm_do.c0 a0 a1 a2 a3 a4 a5 a6 a7 a8 a9), .ex false [.c (.os 2 0 0 1 (List.length a12) none), .c (.sc (.int .i64 a10)), .c (.sc (.int .i64 a11))] 33, .fix false (.int .u8) a12 5] (cm_move.R (.inl t34)) (cm_move.B a0 a1 a2 a3 a4 a5 a6 a7 a8 a9 a10 a11 a12 (.inl t34)) ∧ U) ∧ (cm_do.P r = false ∧ (U) ∧ (U) ∧ (.tup [] : Tm) = cm_do.R r ∧ ([.ex false [.c (.ip 29 1), .row 16 (.int .u32) t34.1, .c (.sc (.int .u32 a1)), .c (.sc (.int .u32 a2)), .row 4 (.int .u64) t34.2.1, .c (.sc (.int .i64 a4)), .c (.sc (.int .i64 a5)), .c (.sc (.int .i64 a6)), .c (.sc (.int .i64 a7)), .c (.sc (.int .u32 a8)), .c (.sc (.int .i64 a9))] 62, .ex false [.c (.os 2 0 0 1 (List.length (z3 t34)) none), .c (.sc (.int .i64 a10)), .c (.sc (.int .i64 (p2 t34)))] 33, .fix false (.int .u8) (z3 t34) 5] : List Box) = cm_do.B a0 a1 a2 a3 a4 a5 a6 a7 a8 a9 a10 a11 a12 r)))) ∧ ((a4 == (32 : Int)) = false → (U) ∧ (((decide (a4 ≥ (21 : Int))) = true → ((decide (a4 ≥ (21 : Int))) = true ∧ (U) ∧ ((decide (a4 ≥ (21 : Int))) = true ∧ (((decide (a4 ≤ (28 : Int))) = true → ((∃ t40 : Int × Int, (FunX cfg 27 [.one (.ptr 0 ⟨0, 0, 0, 0⟩)] [(cm_do.c0 a0 a1 a2 a3 a4 a5 a6 a7 a8 a9), .ex false [.c (.os 2 0 0 1 (List.length a12) none), .c (.sc (.int .i64 a10)), .c (.sc (.int .i64 a11))] 33, .fix false (.int .u8) a12 5] (.iface 64 (.agg #[.int .i64 t40.1, .int .u32 t40.2])) (cm_leap.B a0 a1 a2 a3 a4 a5 a6 a7 a8 a9 a10 a11 a12 (.inr t40)) ∧ U) ∧ (cm_do.P r = true ∧ (U) ∧ (.v (.one (.sc (.iface 64 (.agg #[.int .i64 t40.1, .int .u32 t40.2])))) : Tm) = cm_do.R r ∧ ([(cm_do.c0 a0 a1 a2 a3 a4 a5 a6 a7 a8 a9), .ex false [.c (.os 2 0 0 1 (List.length a12) none), .c (.sc (.int .i64 a10)), .c (.sc (.int .i64 a11))] 33, .fix false (.int .u8) a12 5] : List Box) = cm_do.B a0 a1 a2 a3 a4 a5 a6 a7 a8 a9 a10 a11 a12 r)) ∨ (∃ t39 : (List Int) × Int, (Fun cfg 27 [.one (.ptr 0 ⟨0, 0, 0, 0⟩)] [(cm_do.c0 a0 a1 a2 a3 a4 a5 a6 a7 a8 a9), .ex false [.c (.os 2 0 0 1 (List.length a12) none), .c (.sc (.int .i64 a10)), .c (.sc (.int .i64 a11))] 33, .fix false (.int .u8) a12 5] (cm_leap.R (.inl t39)) (cm_leap.B a0 a1 a2 a3 a4 a5 a6 a7 a8 a9 a10 a11 a12 (.inl t39)) ∧ U) ∧ (cm_do.P r = false ∧ (U) ∧ (U) ∧ (.tup [] : Tm) = cm_do.R r ∧ ([.ex false [.c (.ip 29 1), .row 16 (.int .u32) t39.1, .c (.sc (.int .u32 t39.2)), .c (.sc (.int .u32 a2)), .row 4 (.int .u64) a3, .c (.sc (.int .i64 a4)), .c (.sc (.int .i64 a5)), .c (.sc (.int .i64 a6)), .c (.sc (.int .i64 a7)), .c (.sc (.int .u32 a8)), .c (.sc (.int .i64 a9))] 62, .ex false [.c (.os 2 0 0 1 (List.length a12) none), .c (.sc (.int .i64 a10)), .c (.sc (.int .i64 a11))] 33, .fix false (.int .u8) a12 5] : List Box) = cm_do.B a0 a1 a2 a3 a4 a5 a6 a7 a8 a9 a10 a11 a12 r)))) ∧ ((decide (a4 ≤ (28 : Int))) = false → ((∃ t42 : Int × Int, (FunX cfg 28 [.one (.ptr 0 ⟨0, 0, 0, 0⟩)] [(cm_do.c0 a0 a1 a2 a3 a4 a5 a6 a7 a8 a9), .ex false [.c (.os 2 0 0 1 (List.length a12) none), .c (.sc (.int .i64 a10)), .c (.sc (.int .i64 a11))] 33, .fix false (.int .u8) a12 5] (.iface 64 (.agg #[.int .i64 t42.1, .int .u32 t42.2])) (cm_floats.B a0 a1 a2 a3 a4 a5 a6 a7 a8 a9 a10 a11 a12 (.inl t42)) ∧ U) ∧ (cm_do.P r = true ∧ (U) ∧ (.v (.one (.sc (.iface 64 (.agg #[.int .i64 t42.1, .int .u32 t42.2])))) : Tm) = cm_do.R r ∧ ([(cm_do.c0 a0 a1 a2 a3 a4 a5 a6 a7 a8 a9), .ex false [.c (.os 2 0 0 1 (List.length a12) none), .c (.sc (.int .i64 a10)), .c (.sc (.int .i64 a11))] 33, .fix false (.int .u8) a12 5] : List Box) = cm_do.B a0 a1 a2 a3 a4 a5 a6 a7 a8 a9 a10 a11 a12 r)) ∨ (∃ t43 : (List Int) × Int × (List Int), (Fun cfg 28 [.one (.ptr 0 ⟨0, 0, 0, 0⟩)] [(cm_do.c0 a0 a1 a2 a3 a4 a5 a6 a7 a8 a9), .ex false [.c (.os 2 0 0 1 (List.length a12) none), .c (.sc (.int .i64 a10)), .c (.sc (.int .i64 a11))] 33, .fix false (.int .u8) a12 5] (cm_floats.R (.inr t43)) (cm_floats.B a0 a1 a2 a3 a4 a5 a6 a7 a8 a9 a10 a11 a12 (.inr t43)) ∧ U) ∧ (cm_do.P r = false ∧ (U) ∧ (U) ∧ (.tup [] : Tm) = cm_do.R r ∧ ([.ex false [.c (.ip 29 1), .row 16 (.int .u32) t43.1, .c (.sc (.int .u32 a1)), .c (.sc (.int .u32 t43.2.1)), .row 4 (.int .u64) (z2 t43), .c (.sc (.int .i64 a4)), .c (.sc (.int .i64 a5)), .c (.sc (.int .i64 a6)), .c (.sc (.int .i64 a7)), .c (.sc (.int .u32 a8)), .c (.sc (.int .i64 a9))] 62, .ex false [.c (.os 2 0 0 1 (List.length a12) none), .c (.sc (.int .i64 a10)), .c (.sc (.int .i64 a11))] 33, .fix false (.int .u8) a12 5] : List Box) = cm_do.B a0 a1 a2 a3 a4 a5 a6 a7 a8 a9 a10 a11 a12 r)))))))) ∧ ((decide (a4 ≥ (21 : Int))) = false → ((decide (a4 ≥ (21 : Int))) = false ∧ ((decide (a4 ≥ (21 : Int))) = false ∧ (false = false ∧ ((∃ t45 : Int × Int, (FunX cfg 28 [.one (.ptr 0 ⟨0, 0, 0, 0⟩)] [(cm_do.c0 a0 a1 a2 a3 a4 a5 a6 a7 a8 a9), .ex false [.c (.os 2 0 0 1 (List.length a12) none), .c (.sc (.int .i64 a10)), .c (.sc (.int .i64 a11))] 33, .fix false (.int .u8) a12 5] (.iface 64 (.agg #[.int .i64 t45.1, .int .u32 t45.2])) (cm_floats.B a0 a1 a2 a3 a4 a5 a6 a7 a8 a9 a10 a11 a12 (.inl t45)) ∧ U) ∧ (cm_do.P r = true ∧ (U) ∧ (.v (.one (.sc (.iface 64 (.agg #[.int .i64 t45.1, .int .u32 t45.2])))) : Tm) = cm_do.R r ∧ ([(cm_do.c0 a0 a1 a2 a3 a4 a5 a6 a7 a8 a9), .ex false [.c (.os 2 0 0 1 (List.length a12) none), .c (.sc (.int .i64 a10)), .c (.sc (.int .i64 a11))] 33, .fix false (.int .u8) a12 5] : List Box) = cm_do.B a0 a1 a2 a3 a4 a5 a6 a7 a8 a9 a10 a11 a12 r)) ∨ (∃ t46 : (List Int) × Int × (List Int), (Fun cfg 28 [.one (.ptr 0 ⟨0, 0, 0, 0⟩)] [(cm_do.c0 a0 a1 a2 a3 a4 a5 a6 a7 a8 a9), .ex false [.c (.os 2 0 0 1 (List.length a12) none), .c (.sc (.int .i64 a10)), .c (.sc (.int .i64 a11))] 33, .fix false (.int .u8) a12 5] (cm_floats.R (.inr t46)) (cm_floats.B a0 a1 a2 a3 a4 a5 a6 a7 a8 a9 a10 a11 a12 (.inr t46)) ∧ U) ∧ (cm_do.P r = false ∧ (U) ∧ (U) ∧ (.tup [] : Tm) = cm_do.R r ∧ ([.ex false [.c (.ip 29 1), .row 16 (.int .u32) t46.1, .c (.sc (.int .u32 a1)), .c (.sc (.int .u32 t46.2.1)), .row 4 (.int .u64) (z2 t46), .c (.sc (.int .i64 a4)), .c (.sc (.int .i64 a5)), .c (.sc (.int .i64 a6)), .c (.sc (.int .i64 a7)), .c (.sc (.int .u32 a8)), .c (.sc (.int .i64 a9))] 62, .ex false [.c (.os 2 0 0 1 (List.length a12) none), .c (.sc (.int .i64 a10)), .c (.sc (.int .i64 a11))] 33, .fix false (.int .u8) a12 5] : List Box) = cm_do.B a0 a1 a2 a3 a4 a5 a6 a7 a8 a9 a10 a11 a12 r))))))))))))) ∧ ((a4 == (31 : Int)) = true → ((a4 == (31 : Int)) = true ∧ ((a4 == (31 : Int)) = true ∧ (true = true ∧ ((∃ t31 : Int × Int × Int × (List Int), (FunX cfg 26 [.one (.ptr 0 ⟨0, 0, 0, 0⟩)] [(cm_do.c0 a0 a1 a2 a3 a4 a5 a6 a7 a8 a9), .ex false [.c (.os 2 0 0 1 (List.length a12) none), .c (.sc (.int .i64 a10)), .c (.sc (.int .i64 a11))] 33, .fix false (.int .u8) a12 5] (.iface 64 (.agg #[.int .i64 t31.1, .int .u32 t31.2.1])) (cm_move.B a0 a1 a2 a3 a4 a5 a6 a7 a8 a9 a10 a11 a12 (.inr t31)) ∧ U) ∧ (cm_do.P r = true ∧ (U) ∧ (.v (.one (.sc (.iface 64 (.agg #[.int .i64 t31.1, .int .u32 t31.2.1])))) : Tm) = cm_do.R r ∧ ([(cm_do.c0 a0 a1 a2 a3 a4 a5 a6 a7 a8 a9), .ex false [.c (.os 2 0 0 1 (List.length (z3 t31)) none), .c (.sc (.int .i64 a10)), .c (.sc (.int .i64 (p2 t31)))] 33, .fix false (.int .u8) (z3 t31) 5] : List Box) = cm_do.B a0 a1 a2 a3 a4 a5 a6 a7 a8 a9 a10 a11 a12 r)) ∨ (∃ t30 : (List Int) × (List Int) × Int × (List Int), (Fun cfg 26 [.one (.ptr 0 ⟨0, 0, 0, 0⟩)] [(cm_do.c0 a0 a1 a2 a3 a4 a5 a6 a7 a8 a9), .ex false [.c (.os 2 0 0 1 (List.length a12) none), .c (.sc (.int .i64 a10)), .c (.sc (.int .i64 a11))] 33, .fix false (.int .u8) a12 5] (cm_move.R (.inl t30)) (cm_move.B a0 a1 a2 a3 a4 a5 a6 a7 a8 a9 a10 a11 a12 (.inl t30)) ∧ U) ∧ (cm_do.P r = false ∧ (U) ∧ (U) ∧ (.tup [] : Tm) = cm_do.R r ∧ ([.ex false [.c (.ip 29 1), .row 16 (.int .u32) t30.1, .c (.sc (.int .u32 a1)), .c (.sc (.int .u32 a2)), .row 4 (.int .u64) t30.2.1, .c (.sc (.int .i64 a4)), .c (.sc (.int .i64 a5)), .c (.sc (.int .i64 a6)), .c (.sc (.int .i64 a7)), .c (.sc (.int .u32 a8)), .c (.sc (.int .i64 a9))] 62, .ex false [.c (.os 2 0 0 1 (List.length (z3 t30)) none), .c (.sc (.int .i64 a10)), .c (.sc (.int .i64 (p2 t30)))] 33, .fix false (.int .u8) (z3 t30) 5] : List Box) = cm_do.B a0 a1 a2 a3 a4 a5 a6 a7 a8 a9 a10 a11 a12 r))))))))))) ∧ ((decide (a4 ≤ (20 : Int))) = true → ((decide (a4 ≤ (20 : Int))) = true ∧ ((decide (a4 ≤ (20 : Int))) = true ∧ (true = true ∧ (true = true ∧ (true = true ∧ (true = true ∧ ((∃ t27 : Int × Int × Int × (List Int), (FunX cfg 26 [.one (.ptr 0 ⟨0, 0, 0, 0⟩)] [(cm_do.c0 a0 a1 a2 a3 a4 a5 a6 a7 a8 a9), .ex false [.c (.os 2 0 0 1 (List.length a12) none), .c (.sc (.int .i64 a10)), .c (.sc (.int .i64 a11))] 33, .fix false (.int .u8) a12 5] (.iface 64 (.agg #[.int .i64 t27.1, .int .u32 t27.2.1])) (cm_move.B a0 a1 a2 a3 a4 a5 a6 a7 a8 a9 a10 a11 a12 (.inr t27)) ∧ U) ∧ (cm_do.P r = true ∧ (U) ∧ (.v (.one (.sc (.iface 64 (.agg #[.int .i64 t27.1, .int .u32 t27.2.1])))) : Tm) = cm_do.R r ∧ ([(cm_do.c0 a0 a1 a2 a3 a4 a5 a6 a7 a8 a9), .ex false [.c (.os 2 0 0 1 (List.length (z3 t27)) none), .c (.sc (.int .i64 a10)), .c (.sc (.int .i64 (p2 t27)))] 33, .fix false (.int .u8) (z3 t27) 5] : List Box) = cm_do.B a0 a1 a2 a3 a4 a5 a6 a7 a8 a9 a10 a11 a12 r)) ∨ (∃ t26 : (List Int) × (List Int) × Int × (List Int), (Fun cfg 26 [.one (.ptr 0 ⟨0, 0, 0, 0⟩)] [(cm_do.c0 a0 a1 a2 a3 a4 a5 a6 a7 a8 a9), .ex false [.c (.os 2 0 0 1 (List.length a12) none), .c (.sc (.int .i64 a10)), .c (.sc (.int .i64 a11))] 33, .fix false (.int .u8) a12 5] (cm_move.R (.inl t26)) (cm_move.B a0 a1 a2 a3 a4 a5 a6 a7 a8 a9 a10 a11 a12 (.inl t26)) ∧ U) ∧ (cm_do.P r = false ∧ (U) ∧ (U) ∧ (.tup [] : Tm) = cm_do.R r ∧ ([.ex false [.c (.ip 29 1), .row 16 (.int .u32) t26.1, .c (.sc (.int .u32 a1)), .c (.sc (.int .u32 a2)), .row 4 (.int .u64) t26.2.1, .c (.sc (.int .i64 a4)), .c (.sc (.int .i64 a5)), .c (.sc (.int .i64 a6)), .c (.sc (.int .i64 a7)), .c (.sc (.int .u32 a8)), .c (.sc (.int .i64 a9))] 62, .ex false [.c (.os 2 0 0 1 (List.length (z3 t26)) none), .c (.sc (.int .i64 a10)), .c (.sc (.int .i64 (p2 t26)))] 33, .fix false (.int .u8) (z3 t26) 5] : List Box) = cm_do.B a0 a1 a2 a3 a4 a5 a6 a7 a8 a9 a10 a11 a12 r)))))))))))))) ∧ ((decide (a4 ≥ (17 : Int))) = false → ((decide (a4 ≥ (17 : Int))) = false ∧ ((decide (a4 ≥ (17 : Int))) = false ∧ (false = false ∧ (false = false ∧ (U) ∧ (false = false ∧ (((a4 == (31 : Int)) = false → ((a4 == (31 : Int)) = false ∧ (U) ∧ ((a4 == (31 : Int)) = false ∧ (((a4 == (32 : Int)) = true → ((∃ t54 : Int × Int × Int × (List Int), (FunX cfg 26 [.one (.ptr 0 ⟨0, 0, 0, 0⟩)] [(cm_do.c0 a0 a1 a2 a3 a4 a5 a6 a7 a8 a9), .ex false [.c (.os 2 0 0 1 (List.length a12) none), .c (.sc (.int .i64 a10)), .c (.sc (.int .i64 a11))] 33, .fix false (.int .u8) a12 5] (.iface 64 (.agg #[.int .i64 t54.1, .int .u32 t54.2.1])) (cm_move.B a0 a1 a2 a3 a4 a5 a6 a7 a8 a9 a10 a11 a12 (.inr t54)) ∧ U) ∧ (cm_do.P r = true ∧ (U) ∧ (.v (.one (.sc (.iface 64 (.agg #[.int .i64 t54.1, .int .u32 t54.2.1])))) : Tm) = cm_do.R r ∧ ([(cm_do.c0 a0 a1 a2 a3 a4 a5 a6 a7 a8 a9), .ex false [.c (.os 2 0 0 1 (List.length (z3 t54)) none), .c (.sc (.int .i64 a10)), .c (.sc (.int .i64 (p2 t54)))] 33, .fix false (.int .u8) (z3 t54) 5] : List Box) = cm_do.B a0 a1 a2 a3 a4 a5 a6 a7 a8 a9 a10 a11 a12 r)) ∨ (∃ t53 : (List Int) × (List Int) × Int × (List Int), (Fun cfg 26 [.one (.ptr 0 ⟨0, 0, 0, 0⟩)] [(cm_do.c0 a0 a1 a2 a3 a4 a5 a6 a7 a8 a9), .ex false [.c (.os 2 0 0 1 (List.length a12) none), .c (.sc (.int .i64 a10)), .c (.sc (.int .i64 a11))] 33, .fix false (.int .u8) a12 5] (cm_move.R (.inl t53)) (cm_move.B a0 a1 a2 a3 a4 a5 a6 a7 a8 a9 a10 a11 a12 (.inl t53)) ∧ U) ∧ (cm_do.P r = false ∧ (U) ∧ (U) ∧ (.tup [] : Tm) = cm_do.R r ∧ ([.ex false [.c (.ip 29 1), .row 16 (.int .u32) t53.1, .c (.sc (.int .u32 a1)), .c (.sc (.int .u32 a2)), .row 4 (.int .u64) t53.2.1, .c (.sc (.int .i64 a4)), .c (.sc (.int .i64 a5)), .c (.sc (.int .i64 a6)), .c (.sc (.int .i64 a7)), .c (.sc (.int .u32 a8)), .c (.sc (.int .i64 a9))] 62, .ex false [.c (.os 2 0 0 1 (List.length (z3 t53)) none), .c (.sc (.int .i64 a10)), .c (.sc (.int .i64 (p2 t53)))] 33, .fix false (.int .u8) (z3 t53) 5] : List Box) = cm_do.B a0 a1 a2 a3 a4 a5 a6 a7 a8 a9 a10 a11 a12 r)))) ∧ ((a4 == (32 : Int)) = false → (U) ∧ (((decide (a4 ≥ (21 : Int))) = true → ((decide (a4 ≥ (21 : Int))) = true ∧ (U) ∧ ((decide (a4 ≥ (21 : Int))) = true ∧ (((decide (a4 ≤ (28 : Int))) = true → ((∃ t59 : Int × Int, (FunX cfg 27 [.one (.ptr 0 ⟨0, 0, 0, 0⟩)] [(cm_do.c0 a0 a1 a2 a3 a4 a5 a6 a7 a8 a9), .ex false [.c (.os 2 0 0 1 (List.length a12) none), .c (.sc (.int .i64 a10)), .c (.sc (.int .i64 a11))] 33, .fix false (.int .u8) a12 5] (.iface 64 (.agg #[.int .i64 t59.1, .int .u32 t59.2])) (cm_leap.B a0 a1 a2 a3 a4 a5 a6 a7 a8 a9 a10 a11 a12 (.inr t59)) ∧ U) ∧ (cm_do.P r = true ∧ (U) ∧ (.v (.one (.sc (.iface 64 (.agg #[.int .i64 t59.1, .int .u32 t59.2])))) : Tm) = cm_do.R r ∧ ([(cm_do.c0 a0 a1 a2 a3 a4 a5 a6 a7 a8 a9), .ex false [.c (.os 2 0 0 1 (List.length a12) none), .c (.sc (.int .i64 a10)), .c (.sc (.int .i64 a11))] 33, .fix false (.int .u8) a12 5] : List Box) = cm_do.B a0 a1 a2 a3 a4 a5 a6 a7 a8 a9 a10 a11 a12 r)) ∨ (∃ t58 : (List Int) × Int, (Fun cfg 27 [.one (.ptr 0 ⟨0, 0, 0, 0⟩)] [(cm_do.c0 a0 a1 a2 a3 a4 a5 a6 a7 a8 a9), .ex false [.c (.os 2 0 0 1 (List.length a12) none), .c (.sc (.int .i64 a10)), .c (.sc (.int .i64 a11))] 33, .fix false (.int .u8) a12 5] (cm_leap.R (.inl t58)) (cm_leap.B a0 a1 a2 a3 a4 a5 a6 a7 a8 a9 a10 a11 a12 (.inl t58)) ∧ U) ∧ (cm_do.P r = false ∧ (U) ∧ (U) ∧ (.tup [] : Tm) = cm_do.R r ∧ ([.ex false [.c (.ip 29 1), .row 16 (.int .u32) t58.1, .c (.sc (.int .u32 t58.2)), .c (.sc (.int .u32 a2)), .row 4 (.int .u64) a3, .c (.sc (.int .i64 a4)), .c (.sc (.int .i64 a5)), .c (.sc (.int .i64 a6)), .c (.sc (.int .i64 a7)), .c (.sc (.int .u32 a8)), .c (.sc (.int .i64 a9))] 62, .ex false [.c (.os 2 0 0 1 (List.length a12) none), .c (.sc (.int .i64 a10)), .c (.sc (.int .i64 a11))] 33, .fix false (.int .u8) a12 5] : List Box) = cm_do.B a0 a1 a2 a3 a4 a5 a6 a7 a8 a9 a10 a11 a12 r)))) ∧ ((decide (a4 ≤ (28 : Int))) = false → ((∃ t61 : Int × Int, (FunX cfg 28 [.one (.ptr 0 ⟨0, 0, 0, 0⟩)] [(cm_do.c0 a0 a1 a2 a3 a4 a5 a6 a7 a8 a9), .ex false [.c (.os 2 0 0 1 (List.length a12) none), .c (.sc (.int .i64 a10)), .c (.sc (.int .i64 a11))] 33, .fix false (.int .u8) a12 5] (.iface 64 (.agg #[.int .i64 t61.1, .int .u32 t61.2])) (cm_floats.B a0 a1 a2 a3 a4 a5 a6 a7 a8 a9 a10 a11 a12 (.inl t61)) ∧ U) ∧ (cm_do.P r = true ∧ (U) ∧ (.v (.one (.sc (.iface 64 (.agg #[.int .i64 t61.1, .int .u32 t61.2])))) : Tm) = cm_do.R r ∧ ([(cm_do.c0 a0 a1 a2 a3 a4 a5 a6 a7 a8 a9), .ex false [.c (.os 2 0 0 1 (List.length a12) none), .c (.sc (.int .i64 a10)), .c (.sc (.int .i64 a11))] 33, .fix false (.int .u8) a12 5] : List Box) = cm_do.B a0 a1 a2 a3 a4 a5 a6 a7 a8 a9 a10 a11 a12 r)) ∨ (∃ t62 : (List Int) × Int × (List Int), (Fun cfg 28 [.one (.ptr 0 ⟨0, 0, 0, 0⟩)] [(cm_do.c0 a0 a1 a2 a3 a4 a5 a6 a7 a8 a9), .ex false [.c (.os 2 0 0 1 (List.length a12) none), .c (.sc (.int .i64 a10)), .c (.sc (.int .i64 a11))] 33, .fix false (.int .u8) a12 5] (cm_floats.R (.inr t62)) (cm_floats.B a0 a1 a2 a3 a4 a5 a6 a7 a8 a9 a10 a11 a12 (.inr t62)) ∧ U) ∧ (cm_do.P r = false ∧ (U) ∧ (U) ∧ (.tup [] : Tm) = cm_do.R r ∧ ([.ex false [.c (.ip 29 1), .row 16 (.int .u32) t62.1, .c (.sc (.int .u32 a1)), .c (.sc (.int .u32 t62.2.1)), .row 4 (.int .u64) (z2 t62), .c (.sc (.int .i64 a4)), .c (.sc (.int .i64 a5)), .c (.sc (.int .i64 a6)), .c (.sc (.int .i64 a7)), .c (.sc (.int .u32 a8)), .c (.sc (.int .i64 a9))] 62, .ex false [.c (.os 2 0 0 1 (List.length a12) none), .c (.sc (.int .i64 a10)), .c (.sc (.int .i64 a11))] 33, .fix false (.int .u8) a12 5] : List Box) = cm_do.B a0 a1 a2 a3 a4 a5 a6 a7 a8 a9 a10 a11 a12 r)))))))) ∧ ((decide (a4 ≥ (21 : Int))) = false → ((decide (a4 ≥ (21 : Int))) = false ∧ ((decide (a4 ≥ (21 : Int))) = false ∧ (false = false ∧ ((∃ t64 : Int × Int, (FunX cfg 28 [.one (.ptr 0 ⟨0, 0, 0, 0⟩)] [(cm_do.c0 a0 a1 a2 a3 a4 a5 a6 a7 a8 a9), .ex false [.c (.os 2 0 0 1 (List.length a12) none), .c (.sc (.int .i64 a10)), .c (.sc (.int .i64 a11))] 33, .fix false (.int .u8) a12 5] (.iface 64 (.agg #[.int .i64 t64.1, .int .u32 t64.2])) (cm_floats.B a0 a1 a2 a3 a4 a5 a6 a7 a8 a9 a10 a11 a12 (.inl t64)) ∧ U) ∧ (cm_do.P r = true ∧ (U) ∧ (.v (.one (.sc (.iface 64 (.agg #[.int .i64 t64.1, .int .u32 t64.2])))) : Tm) = cm_do.R r ∧ ([(cm_do.c0 a0 a1 a2 a3 a4 a5 a6 a7 a8 a9), .ex false [.c (.os 2 0 0 1 (List.length a12) none), .c (.sc (.int .i64 a10)), .c (.sc (.int .i64 a11))] 33, .fix false (.int .u8) a12 5] : List Box) = cm_do.B a0 a1 a2 a3 a4 a5 a6 a7 a8 a9 a10 a11 a12 r)) ∨ (∃ t65 : (List Int) × Int × (List Int), (Fun cfg 28 [.one (.ptr 0 ⟨0, 0, 0, 0⟩)] [(cm_do.c0 a0 a1 a2 a3 a4 a5 a6 a7 a8 a9), .ex false [.c (.os 2 0 0 1 (List.length a12) none), .c (.sc (.int .i64 a10)), .c (.sc (.int .i64 a11))] 33, .fix false (.int .u8) a12 5] (cm_floats.R (.inr t65)) (cm_floats.B a0 a1 a2 a3 a4 a5 a6 a7 a8 a9 a10 a11 a12 (.inr t65)) ∧ U) ∧ (cm_do.P r = false ∧ (U) ∧ (U) ∧ (.tup [] : Tm) = cm_do.R r ∧ ([.ex false [.c (.ip 29 1), .row 16 (.int .u32) t65.1, .c (.sc (.int .u32 a1)), .c (.sc (.int .u32 t65.2.1)), .row 4 (.int .u64) (z2 t65), .c (.sc (.int .i64 a4)), .c (.sc (.int .i64 a5)), .c (.sc (.int .i64 a6)), .c (.sc (.int .i64 a7)), .c (.sc (.int .u32 a8)), .c (.sc (.int .i64 a9))] 62, .ex false [.c (.os 2 0 0 1 (List.length a12) none), .c (.sc (.int .i64 a10)), .c (.sc (.int .i64 a11))] 33, .fix false (.int .u8) a12 5] : List Box) = cm_do.B a0 a1 a2 a3 a4 a5 a6 a7 a8 a9 a10 a11 a12 r))))))))))))) ∧ ((a4 == (31 : Int)) = true → ((a4 == (31 : Int)) = true ∧ ((a4 == (31 : Int)) = true ∧ (true = true ∧ ((∃ t50 : Int × Int × Int × (List Int), (FunX cfg 26 [.one (.ptr 0 ⟨0, 0, 0, 0⟩)] [(cm_do.c0 a0 a1 a2 a3 a4 a5 a6 a7 a8 a9), .ex false [.c (.os 2 0 0 1 (List.length a12) none), .c (.sc (.int .i64 a10)), .c (.sc (.int .i64 a11))] 33, .fix false (.int .u8) a12 5] (.iface 64 (.agg #[.int .i64 t50.1, .int .u32 t50.2.1])) (cm_move.B a0 a1 a2 a3 a4 a5 a6 a7 a8 a9 a10 a11 a12 (.inr t50)) ∧ U) ∧ (cm_do.P r = true ∧ (U) ∧ (.v (.one (.sc (.iface 64 (.agg #[.int .i64 t50.1, .int .u32 t50.2.1])))) : Tm) = cm_do.R r ∧ ([(cm_do.c0 a0 a1 a2 a3 a4 a5 a6 a7 a8 a9), .ex false [.c (.os 2 0 0 1 (List.length (z3 t50)) none), .c (.sc (.int .i64 a10)), .c (.sc (.int .i64 (p2 t50)))] 33, .fix false (.int .u8) (z3 t50) 5] : List Box) = cm_do.B a0 a1 a2 a3 a4 a5 a6 a7 a8 a9 a10 a11 a12 r)) ∨ (∃ t49 : (List Int) × (List Int) × Int × (List Int), (Fun cfg 26 [.one (.ptr 0 ⟨0, 0, 0, 0⟩)] [(cm_do.c0 a0 a1 a2 a3 a4 a5 a6 a7 a8 a9), .ex false [.c (.os 2 0 0 1 (List.length a12) none), .c (.sc (.int .i64 a10)), .c (.sc (.int .i64 a11))] 33, .fix false (.int .u8) a12 5] (cm_move.R (.inl t49)) (cm_move.B a0 a1 a2 a3 a4 a5 a6 a7 a8 a9 a10 a11 a12 (.inl t49)) ∧ U) ∧ (cm_do.P r = false ∧ (U) ∧ (U) ∧ (.tup [] : Tm) = cm_do.R r ∧ ([.ex false [.c (.ip 29 1), .row 16 (.int .u32) t49.1, .c (.sc (.int .u32 a1)), .c (.sc (.int .u32 a2)), .row 4 (.int .u64) t49.2.1, .c (.sc (.int .i64 a4)), .c (.sc (.int .i64 a5)), .c (.sc (.int .i64 a6)), .c (.sc (.int .i64 a7)), .c (.sc (.int .u32 a8)), .c (.sc (.int .i64 a9))] 62, .ex false [.c (.os 2 0 0 1 (List.length (z3 t49)) none), .c (.sc (.int .i64 a10)), .c (.sc (.int .i64 (p2 t49)))] 33, .fix false (.int .u8) (z3 t49) 5] : List Box) = cm_do.B a0 a1 a2 a3 a4 a5 a6 a7 a8 a9 a10 a11 a12 r)))))))))))))))))))) ∧ ((decide (a4 ≤ (14 : Int))) = true → ((decide (a4 ≤ (14 : Int))) = true ∧ ((decide (a4 ≤ (14 : Int))) = true ∧ (true = true ∧ ((∃ t17 : Int × Int, (FunX cfg 25 [.one (.ptr 0 ⟨0, 0, 0, 0⟩)] [(cm_do.c0 a0 a1 a2 a3 a4 a5 a6 a7 a8 a9), .ex false [.c (.os 2 0 0 1 (List.length a12) none), .c (.sc (.int .i64 a10)), .c (.sc (.int .i64 a11))] 33, .fix false (.int .u8) a12 5] (.iface 64 (.agg #[.int .i64 t17.1, .int .u32 t17.2])) (cm_reckon.B a0 a1 a2 a3 a4 a5 a6 a7 a8 a9 a10 a11 a12 (.inl t17)) ∧ U) ∧ (cm_do.P r = true ∧ (U) ∧ (.v (.one (.sc (.iface 64 (.agg #[.int .i64 t17.1, .int .u32 t17.2])))) : Tm) = cm_do.R r ∧ ([(cm_do.c0 a0 a1 a2 a3 a4 a5 a6 a7 a8 a9), .ex false [.c (.os 2 0 0 1 (List.length a12) none), .c (.sc (.int .i64 a10)), .c (.sc (.int .i64 a11))] 33, .fix false (.int .u8) a12 5] : List Box) = cm_do.B a0 a1 a2 a3 a4 a5 a6 a7 a8 a9 a10 a11 a12 r)) ∨ (∃ t18 : (List Int) × Int, (Fun cfg 25 [.one (.ptr 0 ⟨0, 0, 0, 0⟩)] [(cm_do.c0 a0 a1 a2 a3 a4 a5 a6 a7 a8 a9), .ex false [.c (.os 2 0 0 1 (List.length a12) none), .c (.sc (.int .i64 a10)), .c (.sc (.int .i64 a11))] 33, .fix false (.int .u8) a12 5] (cm_reckon.R (.inr t18)) (cm_reckon.B a0 a1 a2 a3 a4 a5 a6 a7 a8 a9 a10 a11 a12 (.inr t18)) ∧ U) ∧ (cm_do.P r = false ∧ (U) ∧ (U) ∧ (.tup [] : Tm) = cm_do.R r ∧ ([.ex false [.c (.ip 29 1), .row 16 (.int .u32) t18.1, .c (.sc (.int .u32 a1)), .c (.sc (.int .u32 t18.2)), .row 4 (.int .u64) a3, .c (.sc (.int .i64 a4)), .c (.sc (.int .i64 a5)), .c (.sc (.int .i64 a6)), .c (.sc (.int .i64 a7)), .c (.sc (.int .u32 a8)), .c (.sc (.int .i64 a9))] 62, .ex false [.c (.os 2 0 0 1 (List.length a12) none), .c (.sc (.int .i64 a10)), .c (.sc (.int .i64 a11))] 33, .fix false (.int .u8) a12 5] : List Box) = cm_do.B a0 a1 a2 a3 a4 a5 a6 a7 a8 a9 a10 a11 a12 r))))))))))) ∧ ((decide (a4 ≥ (4 : Int))) = false → ((decide (a4 ≥ (4 : Int))) = false ∧ ((decide (a4 ≥ (4 : Int))) = false ∧ (false = false ∧ (false = false ∧ (U) ∧ (false = false ∧ (((a4 == (16 : Int)) = true → ((∃ t68 : Int × Int, (FunX cfg 25 [.one (.ptr 0 ⟨0, 0, 0, 0⟩)] [(cm_do.c0 a0 a1 a2 a3 a4 a5 a6 a7 a8 a9), .ex false [.c (.os 2 0 0 1 (List.length a12) none), .c (.sc (.int .i64 a10)), .c (.sc (.int .i64 a11))] 33, .fix false (.int .u8) a12 5] (.iface 64 (.agg #[.int .i64 t68.1, .int .u32 t68.2])) (cm_reckon.B a0 a1 a2 a3 a4 a5 a6 a7 a8 a9 a10 a11 a12 (.inl t68)) ∧ U) ∧ (cm_do.P r = true ∧ (U) ∧ (.v (.one (.sc (.iface 64 (.agg #[.int .i64 t68.1, .int .u32 t68.2])))) : Tm) = cm_do.R r ∧ ([(cm_do.c0 a0 a1 a2 a3 a4 a5 a6 a7 a8 a9), .ex false [.c (.os 2 0 0 1 (List.length a12) none), .c (.sc (.int .i64 a10)), .c (.sc (.int .i64 a11))] 33, .fix false (.int .u8) a12 5] : List Box) = cm_do.B a0 a1 a2 a3 a4 a5 a6 a7 a8 a9 a10 a11 a12 r)) ∨ (∃ t69 : (List Int) × Int, (Fun cfg 25 [.one (.ptr 0 ⟨0, 0, 0, 0⟩)] [(cm_do.c0 a0 a1 a2 a3 a4 a5 a6 a7 a8 a9), .ex false [.c (.os 2 0 0 1 (List.length a12) none), .c (.sc (.int .i64 a10)), .c (.sc (.int .i64 a11))] 33, .fix false (.int .u8) a12 5] (cm_reckon.R (.inr t69)) (cm_reckon.B a0 a1 a2 a3 a4 a5 a6 a7 a8 a9 a10 a11 a12 (.inr t69)) ∧ U) ∧ (cm_do.P r = false ∧ (U) ∧ (U) ∧ (.tup [] : Tm) = cm_do.R r ∧ ([.ex false [.c (.ip 29 1), .row 16 (.int .u32) t69.1, .c (.sc (.int .u32 a1)), .c (.sc (.int .u32 t69.2)), .row 4 (.int .u64) a3, .c (.sc (.int .i64 a4)), .c (.sc (.int .i64 a5)), .c (.sc (.int .i64 a6)), .c (.sc (.int .i64 a7)), .c (.sc (.int .u32 a8)), .c (.sc (.int .i64 a9))] 62, .ex false [.c (.os 2 0 0 1 (List.length a12) none), .c (.sc (.int .i64 a10)), .c (.sc (.int .i64 a11))] 33, .fix false (.int .u8) a12 5] : List Box) = cm_do.B a0 a1 a2 a3 a4 a5 a6 a7 a8 a9 a10 a11 a12 r)))) ∧ ((a4 == (16 : Int)) = false → (U) ∧ (((decide (a4 ≥ (17 : Int))) = true → ((decide (a4 ≥ (17 : Int))) = true ∧ (U) ∧ ((decide (a4 ≥ (17 : Int))) = true ∧ (((decide (a4 ≤ (20 : Int))) = false → ((decide (a4 ≤ (20 : Int))) = false ∧ (U) ∧ ((decide (a4 ≤ (20 : Int))) = false ∧ (((a4 == (31 : Int)) = false → ((a4 == (31 : Int)) = false ∧ (U) ∧ ((a4 == (31 : Int)) = false ∧ (((a4 == (32 : Int)) = true → ((∃ t82 : Int × Int × Int × (List Int), (FunX cfg 26 [.one (.ptr 0 ⟨0, 0, 0, 0⟩)] [(cm_do.c0 a0 a1 a2 a3 a4 a5 a6 a7 a8 a9), .ex false [.c (.os 2 0 0 1 (List.length a12) none), .c (.sc (.int .i64 a10)), .c (.sc (.int .i64 a11))] 33, .fix false (.int .u8) a12 5] (.iface 64 (.agg #[.int .i64 t82.1, .int .u32 t82.2.1])) (cm_move.B a0 a1 a2 a3 a4 a5 a6 a7 a8 a9 a10 a11 a12 (.inr t82)) ∧ U) ∧ (cm_do.P r = true ∧ (U) ∧ (.v (.one (.sc (.iface 64 (.agg #[.int .i64 t82.1, .int .u32 t82.2.1])))) : Tm) = cm_do.R r ∧ ([(cm_do.c0 a0 a1 a2 a3 a4 a5 a6 a7 a8 a9), .ex false [.c (.os 2 0 0 1 (List.length (z3 t82)) none), .c (.sc (.int .i64 a10)), .c (.sc (.int .i64 (p2 t82)))] 33, .fix false (.int .u8) (z3 t82) 5] : List Box) = cm_do.B a0 a1 a2 a3 a4 a5 a6 a7 a8 a9 a10 a11 a12 r)) ∨ (∃ t81 : (List Int) × (List Int) × Int × (List Int), (Fun cfg 26 [.one (.ptr 0 ⟨0, 0, 0, 0⟩)] [(cm_do.c0 a0 a1 a2 a3 a4 a5 a6 a7 a8 a9), .ex false [.c (.os 2 0 0 1 (List.length a12) none), .c (.sc (.int .i64 a10)), .c (.sc (.int .i64 a11))] 33, .fix false (.int .u8) a12 5] (cm_move.R (.inl t81)) (cm_move.B a0 a1 a2 a3 a4 a5 a6 a7 a8 a9 a10 a11 a12 (.inl t81)) ∧ U) ∧ (cm_do.P r = false ∧ (U) ∧ (U) ∧ (.tup [] : Tm) = cm_do.R r ∧ ([.ex false [.c (.ip 29 1), .row 16 (.int .u32) t81.1, .c (.sc (.int .u32 a1)), .c (.sc (.int .u32 a2)), .row 4 (.int .u64) t81.2.1, .c (.sc (.int .i64 a4)), .c (.sc (.int .i64 a5)), .c (.sc (.int .i64 a6)), .c (.sc (.int .i64 a7)), .c (.sc (.int .u32 a8)), .c (.sc (.int .i64 a9))] 62, .ex false [.c (.os 2 0 0 1 (List.length (z3 t81)) none), .c (.sc (.int .i64 a10)), .c (.sc (.int .i64 (p2 t81)))] 33, .fix false (.int .u8) (z3 t81) 5] : List Box) = cm_do.B a0 a1 a2 a3 a4 a5 a6 a7 a8 a9 a10 a11 a12 r)))) ∧ ((a4 == (32 : Int)) = false → (U) ∧ (((decide (a4 ≥ (21 : Int))) = true → ((decide (a4 ≥ (21 : Int))) = true ∧ (U) ∧ ((decide (a4 ≥ (21 : Int))) = true ∧ (((decide (a4 ≤ (28 : Int))) = true → ((∃ t87 : Int × Int, (FunX cfg 27 [.one (.ptr 0 ⟨0, 0, 0, 0⟩)] [(cm_do.c0 a0 a1 a2 a3 a4 a5 a6 a7 a8 a9), .ex false [.c (.os 2 0 0 1 (List.length a12) none), .c (.sc (.int .i64 a10)), .c (.sc (.int .i64 a11))] 33, .fix false (.int .u8) a12 5] (.iface 64 (.agg #[.int .i64 t87.1, .int .u32 t87.2])) (cm_leap.B a0 a1 a2 a3 a4 a5 a6 a7 a8 a9 a10 a11 a12 (.inr t87)) ∧ U) ∧ (cm_do.P r = true ∧ (U) ∧ (.v (.one (.sc (.iface 64 (.agg #[.int .i64 t87.1, .int .u32 t87.2])))) : Tm) = cm_do.R r ∧ ([(cm_do.c0 a0 a1 a2 a3 a4 a5 a6 a7 a8 a9), .ex false [.c (.os 2 0 0 1 (List.length a12) none), .c (.sc (.int .i64 a10)), .c (.sc (.int .i64 a11))] 33, .fix false (.int .u8) a12 5] : List Box) = cm_do.B a0 a1 a2 a3 a4 a5 a6 a7 a8 a9 a10 a11 a12 r)) ∨ (∃ t86 : (List Int) × Int, (Fun cfg 27 [.one (.ptr 0 ⟨0, 0, 0, 0⟩)] [(cm_do.c0 a0 a1 a2 a3 a4 a5 a6 a7 a8 a9), .ex false [.c (.os 2 0 0 1 (List.length a12) none), .c (.sc (.int .i64 a10)), .c (.sc (.int .i64 a11))] 33, .fix false (.int .u8) a12 5] (cm_leap.R (.inl t86)) (cm_leap.B a0 a1 a2 a3 a4 a5 a6 a7 a8 a9 a10 a11 a12 (.inl t86)) ∧ U) ∧ (cm_do.P r = false ∧ (U) ∧ (U) ∧ (.tup [] : Tm) = cm_do.R r ∧ ([.ex false [.c (.ip 29 1), .row 16 (.int .u32) t86.1, .c (.sc (.int .u32 t86.2)), .c (.sc (.int .u32 a2)), .row 4 (.int .u64) a3, .c (.sc (.int .i64 a4)), .c (.sc (.int .i64 a5)), .c (.sc (.int .i64 a6)), .c (.sc (.int .i64 a7)), .c (.sc (.int .u32 a8)), .c (.sc (.int .i64 a9))] 62, .ex false [.c (.os 2 0 0 1 (List.length a12) none), .c (.sc (.int .i64 a10)), .c (.sc (.int .i64 a11))] 33, .fix false (.int .u8) a12 5] : List Box) = cm_do.B a0 a1 a2 a3 a4 a5 a6 a7 a8 a9 a10 a11 a12 r)))) ∧ ((decide (a4 ≤ (28 : Int))) = false → ((∃ t89 : Int × Int, (FunX cfg 28 [.one (.ptr 0 ⟨0, 0, 0, 0⟩)] [(cm_do.c0 a0 a1 a2 a3 a4 a5 a6 a7 a8 a9), .ex false [.c (.os 2 0 0 1 (List.length a12) none), .c (.sc (.int .i64 a10)), .c (.sc (.int .i64 a11))] 33, .fix false (.int .u8) a12 5] (.iface 64 (.agg #[.int .i64 t89.1, .int .u32 t89.2])) (cm_floats.B a0 a1 a2 a3 a4 a5 a6 a7 a8 a9 a10 a11 a12 (.inl t89)) ∧ U) ∧ (cm_do.P r = true ∧ (U) ∧ (.v (.one (.sc (.iface 64 (.agg #[.int .i64 t89.1, .int .u32 t89.2])))) : Tm) = cm_do.R r ∧ ([(cm_do.c0 a0 a1 a2 a3 a4 a5 a6 a7 a8 a9), .ex false [.c (.os 2 0 0 1 (List.length a12) none), .c (.sc (.int .i64 a10)), .c (.sc (.int .i64 a11))] 33, .fix false (.int .u8) a12 5] : List Box) = cm_do.B a0 a1 a2 a3 a4 a5 a6 a7 a8 a9 a10 a11 a12 r)) ∨ (∃ t90 : (List Int) × Int × (List Int), (Fun cfg 28 [.one (.ptr 0 ⟨0, 0, 0, 0⟩)] [(cm_do.c0 a0 a1 a2 a3 a4 a5 a6 a7 a8 a9), .ex false [.c (.os 2 0 0 1 (List.length a12) none), .c (.sc (.int .i64 a10)), .c (.sc (.int .i64 a11))] 33, .fix false (.int .u8) a12 5] (cm_floats.R (.inr t90)) (cm_floats.B a0 a1 a2 a3 a4 a5 a6 a7 a8 a9 a10 a11 a12 (.inr t90)) ∧ U) ∧ (cm_do.P r = false ∧ (U) ∧ (U) ∧ (.tup [] : Tm) = cm_do.R r ∧ ([.ex false [.c (.ip 29 1), .row 16 (.int .u32) t90.1, .c (.sc (.int .u32 a1)), .c (.sc (.int .u32 t90.2.1)), .row 4 (.int .u64) (z2 t90), .c (.sc (.int .i64 a4)), .c (.sc (.int .i64 a5)), .c (.sc (.int .i64 a6)), .c (.sc (.int .i64 a7)), .c (.sc (.int .u32 a8)), .c (.sc (.int .i64 a9))] 62, .ex false [.c (.os 2 0 0 1 (List.length a12) none), .c (.sc (.int .i64 a10)), .c (.sc (.int .i64 a11))] 33, .fix false (.int .u8) a12 5] : List Box) = cm_do.B a0 a1 a2 a3 a4 a5 a6 a7 a8 a9 a10 a11 a12 r)))))))) ∧ ((decide (a4 ≥ (21 : Int))) = false → ((decide (a4 ≥ (21 : Int))) = false ∧ ((decide (a4 ≥ (21 : Int))) = false ∧ (false = false ∧ ((∃ t92 : Int × Int, (FunX cfg 28 [.one (.ptr 0 ⟨0, 0, 0, 0⟩)] [(cm_do.c0 a0 a1 a2 a3 a4 a5 a6 a7 a8 a9), .ex false [.c (.os 2 0 0 1 (List.length a12) none), .c (.sc (.int .i64 a10)), .c (.sc (.int .i64 a11))] 33, .fix false (.int .u8) a12 5] (.iface 64 (.agg #[.int .i64 t92.1, .int .u32 t92.2])) (cm_floats.B a0 a1 a2 a3 a4 a5 a6 a7 a8 a9 a10 a11 a12 (.inl t92)) ∧ U) ∧ (cm_do.P r = true ∧ (U) ∧ (.v (.one (.sc (.iface 64 (.agg #[.int .i64 t92.1, .int .u32 t92.2])))) : Tm) = cm_do.R r ∧ ([(cm_do.c0 a0 a1 a2 a3 a4 a5 a6 a7 a8 a9), .ex false [.c (.os 2 0 0 1 (List.length a12) none), .c (.sc (.int .i64 a10)), .c (.sc (.int .i64 a11))] 33, .fix false (.int .u8) a12 5] : List Box) = cm_do.B a0 a1 a2 a3 a4 a5 a6 a7 a8 a9 a10 a11 a12 r)) ∨ (∃ t93 : (List Int) × Int × (List Int), (Fun cfg 28 [.one (.ptr 0 ⟨0, 0, 0, 0⟩)] [(cm_do.c0 a0 a1 a2 a3 a4 a5 a6 a7 a8 a9), .ex false [.c (.os 2 0 0 1 (List.length a12) none), .c (.sc (.int .i64 a10)), .c (.sc (.int .i64 a11))] 33, .fix false (.int .u8) a12 5] (cm_floats.R (.inr t93)) (cm_floats.B a0 a1 a2 a3 a4 a5 a6 a7 a8 a9 a10 a11 a12 (.inr t93)) ∧ U) ∧ (cm_do.P r = false ∧ (U) ∧ (U) ∧ (.tup [] : Tm) = cm_do.R r ∧ ([.ex false [.c (.ip 29 1), .row 16 (.int .u32) t93.1, .c (.sc (.int .u32 a1)), .c (.sc (.int .u32 t93.2.1)), .row 4 (.int .u64) (z2 t93), .c (.sc (.int .i64 a4)), .c (.sc (.int .i64 a5)), .c (.sc (.int .i64 a6)), .c (.sc (.int .i64 a7)), .c (.sc (.int .u32 a8)), .c (.sc (.int .i64 a9))] 62, .ex false [.c (.os 2 0 0 1 (List.length a12) none), .c (.sc (.int .i64 a10)), .c (.sc (.int .i64 a11))] 33, .fix false (.int .u8) a12 5] : List Box) = cm_do.B a0 a1 a2 a3 a4 a5 a6 a7 a8 a9 a10 a11 a12 r))))))))))))) ∧ ((a4 == (31 : Int)) = true → ((a4 == (31 : Int)) = true ∧ ((a4 == (31 : Int)) = true ∧ (true = true ∧ ((∃ t78 : Int × Int × Int × (List Int), (FunX cfg 26 [.one (.ptr 0 ⟨0, 0, 0, 0⟩)] [(cm_do.c0 a0 a1 a2 a3 a4 a5 a6 a7 a8 a9), .ex false [.c (.os 2 0 0 1 (List.length a12) none), .c (.sc (.int .i64 a10)), .c (.sc (.int .i64 a11))] 33, .fix false (.int .u8) a12 5] (.iface 64 (.agg #[.int .i64 t78.1, .int .u32 t78.2.1])) (cm_move.B a0 a1 a2 a3 a4 a5 a6 a7 a8 a9 a10 a11 a12 (.inr t78)) ∧ U) ∧ (cm_do.P r = true ∧ (U) ∧ (.v (.one (.sc (.iface 64 (.agg #[.int .i64 t78.1, .int .u32 t78.2.1])))) : Tm) = cm_do.R r ∧ ([(cm_do.c0 a0 a1 a2 a3 a4 a5 a6 a7 a8 a9), .ex false [.c (.os 2 0 0 1 (List.length (z3 t78)) none), .c (.sc (.int .i64 a10)), .c (.sc (.int .i64 (p2 t78)))] 33, .fix false (.int .u8) (z3 t78) 5] : List Box) = cm_do.B a0 a1 a2 a3 a4 a5 a6 a7 a8 a9 a10 a11 a12 r)) ∨ (∃ t77 : (List Int) × (List Int) × Int × (List Int), (Fun cfg 26 [.one (.ptr 0 ⟨0, 0, 0, 0⟩)] [(cm_do.c0 a0 a1 a2 a3 a4 a5 a6 a7 a8 a9), .ex false [.c (.os 2 0 0 1 (List.length a12) none), .c (.sc (.int .i64 a10)), .c (.sc (.int .i64 a11))] 33, .fix false (.int .u8) a12 5] (cm_move.R (.inl t77)) (cm_move.B a0 a1 a2 a3 a4 a5 a6 a7 a8 a9 a10 a11 a12 (.inl t77)) ∧ U) ∧ (cm_do.P r = false ∧ (U) ∧ (U) ∧ (.tup [] : Tm) = cm_do.R r ∧ ([.ex false [.c (.ip 29 1), .row 16 (.int .u32) t77.1, .c (.sc (.int .u32 a1)), .c (.sc (.int .u32 a2)), .row 4 (.int .u64) t77.2.1, .c (.sc (.int .i64 a4)), .c (.sc (.int .i64 a5)), .c (.sc (.int .i64 a6)), .c (.sc (.int .i64 a7)), .c (.sc (.int .u32 a8)), .c (.sc (.int .i64 a9))] 62, .ex false [.c (.os 2 0 0 1 (List.length (z3 t77)) none), .c (.sc (.int .i64 a10)), .c (.sc (.int .i64 (p2 t77)))] 33, .fix false (.int .u8) (z3 t77) 5] : List Box) = cm_do.B a0 a1 a2 a3 a4 a5 a6 a7 a8 a9 a10 a11 a12 r))))))))))) ∧ ((decide (a4 ≤ (20 : Int))) = true → ((decide (a4 ≤ (20 : Int))) = true ∧ ((decide (a4 ≤ (20 : Int))) = true ∧ (true = true ∧ (true = true ∧ (true = true ∧ (true = true ∧ ((∃ t74 : Int × Int × Int × (List Int), (FunX cfg 26 [.one (.ptr 0 ⟨0, 0, 0, 0⟩)] [(cm_do.c0 a0 a1 a2 a3 a4 a5 a6 a7 a8 a9), .ex false [.c (.os 2 0 0 1 (List.length a12) none), .c (.sc (.int .i64 a10)), .c (.sc (.int .i64 a11))] 33, .fix false (.int .u8) a12 5] (.iface 64 (.agg #[.int .i64 t74.1, .int .u32 t74.2.1])) (cm_move.B a0 a1 a2 a3 a4 a5 a6 a7 a8 a9 a10 a11 a12 (.inr t74)) ∧ U) ∧ (cm_do.P r = true ∧ (U) ∧ (.v (.one (.sc (.iface 64 (.agg #[.int .i64 t74.1, .int .u32 t74.2.1])))) : Tm) = cm_do.R r ∧ ([(cm_do.c0 a0 a1 a2 a3 a4 a5 a6 a7 a8 a9), .ex false [.c (.os 2 0 0 1 (List.length (z3 t74)) none), .c (.sc (.int .i64 a10)), .c (.sc (.int .i64 (p2 t74)))] 33, .fix false (.int .u8) (z3 t74) 5] : List Box) = cm_do.B a0 a1 a2 a3 a4 a5 a6 a7 a8 a9 a10 a11 a12 r)) ∨ (∃ t73 : (List Int) × (List Int) × Int × (List Int), (Fun cfg 26 [.one (.ptr 0 ⟨0, 0, 0, 0⟩)] [(cm_do.c0 a0 a1 a2 a3 a4 a5 a6 a7 a8 a9), .ex false [.c (.os 2 0 0 1 (List.length a12) none), .c (.sc (.int .i64 a10)), .c (.sc (.int .i64 a11))] 33, .fix false (.int .u8) a12 5] (cm_move.R (.inl t73)) (cm_move.B a0 a1 a2 a3 a4 a5 a6 a7 a8 a9 a10 a11 a12 (.inl t73)) ∧ U) ∧ (cm_do.P r = false ∧ (U) ∧ (U) ∧ (.tup [] : Tm) = cm_do.R r ∧ ([.ex false [.c (.ip 29 1), .row 16 (.int .u32) t73.1, .c (.sc (.int .u32 a1)), .c (.sc (.int .u32 a2)), .row 4 (.int .u64) t73.2.1, .c (.sc (.int .i64 a4)), .c (.sc (.int .i64 a5)), .c (.sc (.int .i64 a6)), .c (.sc (.int .i64 a7)), .c (.sc (.int .u32 a8)), .c (.sc (.int .i64 a9))] 62, .ex false [.c (.os 2 0 0 1 (List.length (z3 t73)) none), .c (.sc (.int .i64 a10)), .c (.sc (.int .i64 (p2 t73)))] 33, .fix false (.int .u8) (z3 t73) 5] : List Box) = cm_do.B a0 a1 a2 a3 a4 a5 a6 a7 a8 a9 a10 a11 a12 r)))))))))))))) ∧ ((decide (a4 ≥ (17 : Int))) = false → ((decide (a4 ≥ (17 : Int))) = false ∧ ((decide (a4 ≥ (17 : Int))) = false ∧ (false = false ∧ (false = false ∧ (U) ∧ (false = false ∧ (((a4 == (31 : Int)) = false → ((a4 == (31 : Int)) = false ∧ (U) ∧ ((a4 == (31 : Int)) = false ∧ (((a4 == (32 : Int)) = true → ((∃ t101 : Int × Int × Int × (List Int), (FunX cfg 26 [.one (.ptr 0 ⟨0, 0, 0, 0⟩)] [(cm_do.c0 a0 a1 a2 a3 a4 a5 a6 a7 a8 a9), .ex false [.c (.os 2 0 0 1 (List.length a12) none), .c (.sc (.int .i64 a10)), .c (.sc (.int .i64 a11))] 33, .fix false (.int .u8) a12 5] (.iface 64 (.agg #[.int .i64 t101.1, .int .u32 t101.2.1])) (cm_move.B a0 a1 a2 a3 a4 a5 a6 a7 a8 a9 a10 a11 a12 (.inr t101)) ∧ U) ∧ (cm_do.P r = true ∧ (U) ∧ (.v (.one (.sc (.iface 64 (.agg #[.int .i64 t101.1, .int .u32 t101.2.1])))) : Tm) = cm_do.R r ∧ ([(cm_do.c0 a0 a1 a2 a3 a4 a5 a6 a7 a8 a9), .ex false [.c (.os 2 0 0 1 (List.length (z3 t101)) none), .c (.sc (.int .i64 a10)), .c (.sc (.int .i64 (p2 t101)))] 33, .fix false (.int .u8) (z3 t101) 5] : List Box) = cm_do.B a0 a1 a2 a3 a4 a5 a6 a7 a8 a9 a10 a11 a12 r)) ∨ (∃ t100 : (List Int) × (List Int) × Int × (List Int), (Fun cfg 26 [.one (.ptr 0 ⟨0, 0, 0, 0⟩)] [(cm_do.c0 a0 a1 a2 a3 a4 a5 a6 a7 a8 a9), .ex false [.c (.os 2 0 0 1 (List.length a12) none), .c (.sc (.int .i64 a10)), .c (.sc (.int .i64 a11))] 33, .fix false (.int .u8) a12 5] (cm_move.R (.inl t100)) (cm_move.B a0 a1 a2 a3 a4 a5 a6 a7 a8 a9 a10 a11 a12 (.inl t100)) ∧ U) ∧ (cm_do.P r = false ∧ (U) ∧ (U) ∧ (.tup [] : Tm) = cm_do.R r ∧ ([.ex false [.c (.ip 29 1), .row 16 (.int .u32) t100.1, .c (.sc (.int .u32 a1)), .c (.sc (.int .u32 a2)), .row 4 (.int .u64) t100.2.1, .c (.sc (.int .i64 a4)), .c (.sc (.int .i64 a5)), .c (.sc (.int .i64 a6)), .c (.sc (.int .i64 a7)), .c (.sc (.int .u32 a8)), .c (.sc (.int .i64 a9))] 62, .ex false [.c (.os 2 0 0 1 (List.length (z3 t100)) none), .c (.sc (.int .i64 a10)), .c (.sc (.int .i64 (p2 t100)))] 33, .fix false (.int .u8) (z3 t100) 5] : List Box) = cm_do.B a0 a1 a2 a3 a4 a5 a6 a7 a8 a9 a10 a11 a12 r)))) ∧ ((a4 == (32 : Int)) = false → (U) ∧ (((decide (a4 ≥ (21 : Int))) = true → ((decide (a4 ≥ (21 : Int))) = true ∧ (U) ∧ ((decide (a4 ≥ (21 : Int))) = true ∧ (((decide (a4 ≤ (28 : Int))) = true → ((∃ t106 : Int × Int, (FunX cfg 27 [.one (.ptr 0 ⟨0, 0, 0, 0⟩)] [(cm_do.c0 a0 a1 a2 a3 a4 a5 a6 a7 a8 a9), .ex false [.c (.os 2 0 0 1 (List.length a12) none), .c (.sc (.int .i64 a10)), .c (.sc (.int .i64 a11))] 33, .fix false (.int .u8) a12 5] (.iface 64 (.agg #[.int .i64 t106.1, .int .u32 t106.2])) (cm_leap.B a0 a1 a2 a3 a4 a5 a6 a7 a8 a9 a10 a11 a12 (.inr t106)) ∧ U) ∧ (cm_do.P r = true ∧ (U) ∧ (.v (.one (.sc (.iface 64 (.agg #[.int .i64 t106.1, .int .u32 t106.2])))) : Tm) = cm_do.R r ∧ ([(cm_do.c0 a0 a1 a2 a3 a4 a5 a6 a7 a8 a9), .ex false [.c (.os 2 0 0 1 (List.length a12) none), .c (.sc (.int .i64 a10)), .c (.sc (.int .i64 a11))] 33, .fix false (.int .u8) a12 5] : List Box) = cm_do.B a0 a1 a2 a3 a4 a5 a6 a7 a8 a9 a10 a11 a12 r)) ∨ (∃ t105 : (List Int) × Int, (Fun cfg 27 [.one (.ptr 0 ⟨0, 0, 0, 0⟩)] [(cm_do.c0 a0 a1 a2 a3 a4 a5 a6 a7 a8 a9), .ex false [.c (.os 2 0 0 1 (List.length a12) none), .c (.sc (.int .i64 a10)), .c (.sc (.int .i64 a11))] 33, .fix false (.int .u8) a12 5] (cm_leap.R (.inl t105)) (cm_leap.B a0 a1 a2 a3 a4 a5 a6 a7 a8 a9 a10 a11 a12 (.inl t105)) ∧ U) ∧ (cm_do.P r = false ∧ (U) ∧ (U) ∧ (.tup [] : Tm) = cm_do.R r ∧ ([.ex false [.c (.ip 29 1), .row 16 (.int .u32) t105.1, .c (.sc (.int .u32 t105.2)), .c (.sc (.int .u32 a2)), .row 4 (.int .u64) a3, .c (.sc (.int .i64 a4)), .c (.sc (.int .i64 a5)), .c (.sc (.int .i64 a6)), .c (.sc (.int .i64 a7)), .c (.sc (.int .u32 a8)), .c (.sc (.int .i64 a9))] 62, .ex false [.c (.os 2 0 0 1 (List.length a12) none), .c (.sc (.int .i64 a10)), .c (.sc (.int .i64 a11))] 33, .fix false (.int .u8) a12 5] : List Box) = cm_do.B a0 a1 a2 a3 a4 a5 a6 a7 a8 a9 a10 a11 a12 r)))) ∧ ((decide (a4 ≤ (28 : Int))) = false → ((∃ t108 : Int × Int, (FunX cfg 28 [.one (.ptr 0 ⟨0, 0, 0, 0⟩)] [(cm_do.c0 a0 a1 a2 a3 a4 a5 a6 a7 a8 a9), .ex false [.c (.os 2 0 0 1 (List.length a12) none), .c (.sc (.int .i64 a10)), .c (.sc (.int .i64 a11))] 33, .fix false (.int .u8) a12 5] (.iface 64 (.agg #[.int .i64 t108.1, .int .u32 t108.2])) (cm_floats.B a0 a1 a2 a3 a4 a5 a6 a7 a8 a9 a10 a11 a12 (.inl t108)) ∧ U) ∧ (cm_do.P r = true ∧ (U) ∧ (.v (.one (.sc (.iface 64 (.agg #[.int .i64 t108.1, .int .u32 t108.2])))) : Tm) = cm_do.R r ∧ ([(cm_do.c0 a0 a1 a2 a3 a4 a5 a6 a7 a8 a9), .ex false [.c (.os 2 0 0 1 (List.length a12) none), .c (.sc (.int .i64 a10)), .c (.sc (.int .i64 a11))] 33, .fix false (.int .u8) a12 5] : List Box) = cm_do.B a0 a1 a2 a3 a4 a5 a6 a7 a8 a9 a10 a11 a12 r)) ∨ (∃ t109 : (List Int) × Int × (List Int), (Fun cfg 28 [.one (.ptr 0 ⟨0, 0, 0, 0⟩)] [(cm_do.c0 a0 a1 a2 a3 a4 a5 a6 a7 a8 a9), .ex false [.c (.os 2 0 0 1 (List.length a12) none), .c (.sc (.int .i64 a10)), .c (.sc (.int .i64 a11))] 33, .fix false (.int .u8) a12 5] (cm_floats.R (.inr t109)) (cm_floats.B a0 a1 a2 a3 a4 a5 a6 a7 a8 a9 a10 a11 a12 (.inr t109)) ∧ U) ∧ (cm_do.P r = false ∧ (U) ∧ (U) ∧ (.tup [] : Tm) = cm_do.R r ∧ ([.ex false [.c (.ip 29 1), .row 16 (.int .u32) t109.1, .c (.sc (.int .u32 a1)), .c (.sc (.int .u32 t109.2.1)), .row 4 (.int .u64) (z2 t109), .c (.sc (.int .i64 a4)), .c (.sc (.int .i64 a5)), .c (.sc (.int .i64 a6)), .c (.sc (.int .i64 a7)), .c (.sc (.int .u32 a8)), .c (.sc (.int .i64 a9))] 62, .ex false [.c (.os 2 0 0 1 (List.length a12) none), .c (.sc (.int .i64 a10)), .c (.sc (.int .i64 a11))] 33, .fix false (.int .u8) a12 5] : List Box) = cm_do.B a0 a1 a2 a3 a4 a5 a6 a7 a8 a9 a10 a11 a12 r)))))))) ∧ ((decide (a4 ≥ (21 : Int))) = false → ((decide (a4 ≥ (21 : Int))) = false ∧ ((decide (a4 ≥ (21 : Int))) = false ∧ (false = false ∧ ((∃ t111 : Int × Int, (FunX cfg 28 [.one (.ptr 0 ⟨0, 0, 0, 0⟩)] [(cm_do.c0 a0 a1 a2 a3 a4 a5 a6 a7 a8 a9), .ex false [.c (.os 2 0 0 1 (List.length a12) none), .c (.sc (.int .i64 a10)), .c (.sc (.int .i64 a11))] 33, .fix false (.int .u8) a12 5] (.iface 64 (.agg #[.int .i64 t111.1, .int .u32 t111.2])) (cm_floats.B a0 a1 a2 a3 a4 a5 a6 a7 a8 a9 a10 a11 a12 (.inl t111)) ∧ U) ∧ (cm_do.P r = true ∧ (U) ∧ (.v (.one (.sc (.iface 64 (.agg #[.int .i64 t111.1, .int .u32 t111.2])))) : Tm) = cm_do.R r ∧ ([(cm_do.c0 a0 a1 a2 a3 a4 a5 a6 a7 a8 a9), .ex false [.c (.os 2 0 0 1 (List.length a12) none), .c (.sc (.int .i64 a10)), .c (.sc (.int .i64 a11))] 33, .fix false (.int .u8) a12 5] : List Box) = cm_do.B a0 a1 a2 a3 a4 a5 a6 a7 a8 a9 a10 a11 a12 r)) ∨ (∃ t112 : (List Int) × Int × (List Int), (Fun cfg 28 [.one (.ptr 0 ⟨0, 0, 0, 0⟩)] [(cm_do.c0 a0 a1 a2 a3 a4 a5 a6 a7 a8 a9), .ex false [.c (.os 2 0 0 1 (List.length a12) none), .c (.sc (.int .i64 a10)), .c (.sc (.int .i64 a11))] 33, .fix false (.int .u8) a12 5] (cm_floats.R (.inr t112)) (cm_floats.B a0 a1 a2 a3 a4 a5 a6 a7 a8 a9 a10 a11 a12 (.inr t112)) ∧ U) ∧ (cm_do.P r = false ∧ (U) ∧ (U) ∧ (.tup [] : Tm) = cm_do.R r ∧ ([.ex false [.c (.ip 29 1), .row 16 (.int .u32) t112.1, .c (.sc (.int .u32 a1)), .c (.sc (.int .u32 t112.2.1)), .row 4 (.int .u64) (z2 t112), .c (.sc (.int .i64 a4)), .c (.sc (.int .i64 a5)), .c (.sc (.int .i64 a6)), .c (.sc (.int .i64 a7)), .c (.sc (.int .u32 a8)), .c (.sc (.int .i64 a9))] 62, .ex false [.c (.os 2 0 0 1 (List.length a12) none), .c (.sc (.int .i64 a10)), .c (.sc (.int .i64 a11))] 33, .fix false (.int .u8) a12 5] : List Box) = cm_do.B a0 a1 a2 a3 a4 a5 a6 a7 a8 a9 a10 a11 a12 r))))))))))))) ∧ ((a4 == (31 : Int)) = true → ((a4 == (31 : Int)) = true ∧ ((a4 == (31 : Int)) = true ∧ (true = true ∧ ((∃ t97 : Int × Int × Int × (List Int), (FunX cfg 26 [.one (.ptr 0 ⟨0, 0, 0, 0⟩)] [(cm_do.c0 a0 a1 a2 a3 a4 a5 a6 a7 a8 a9), .ex false [.c (.os 2 0 0 1 (List.length a12) none), .c (.sc (.int .i64 a10)), .c (.sc (.int .i64 a11))] 33, .fix false (.int .u8) a12 5] (.iface 64 (.agg #[.int .i64 t97.1, .int .u32 t97.2.1])) (cm_move.B a0 a1 a2 a3 a4 a5 a6 a7 a8 a9 a10 a11 a12 (.inr t97)) ∧ U) ∧ (cm_do.P r = true ∧ (U) ∧ (.v (.one (.sc (.iface 64 (.agg #[.int .i64 t97.1, .int .u32 t97.2.1])))) : Tm) = cm_do.R r ∧ ([(cm_do.c0 a0 a1 a2 a3 a4 a5 a6 a7 a8 a9), .ex false [.c (.os 2 0 0 1 (List.length (z3 t97)) none), .c (.sc (.int .i64 a10)), .c (.sc (.int .i64 (p2 t97)))] 33, .fix false (.int .u8) (z3 t97) 5] : List Box) = cm_do.B a0 a1 a2 a3 a4 a5 a6 a7 a8 a9 a10 a11 a12 r)) ∨ (∃ t96 : (List Int) × (List Int) × Int × (List Int), (Fun cfg 26 [.one (.ptr 0 ⟨0, 0, 0, 0⟩)] [(cm_do.c0 a0 a1 a2 a3 a4 a5 a6 a7 a8 a9), .ex false [.c (.os 2 0 0 1 (List.length a12) none), .c (.sc (.int .i64 a10)), .c (.sc (.int .i64 a11))] 33, .fix false (.int .u8) a12 5] (cm_move.R (.inl t96)) (cm_move.B a0 a1 a2 a3 a4 a5 a6 a7 a8 a9 a10 a11 a12 (.inl t96)) ∧ U) ∧ (cm_do.P r = false ∧ (U) ∧ (U) ∧ (.tup [] : Tm) = cm_do.R r ∧ ([.ex false [.c (.ip 29 1), .row 16 (.int .u32) t96.1, .c (.sc (.int .u32 a1)), .c (.sc (.int .u32 a2)), .row 4 (.int .u64) t96.2.1, .c (.sc (.int .i64 a4)), .c (.sc (.int .i64 a5)), .c (.sc (.int .i64 a6)), .c (.sc (.int .i64 a7)), .c (.sc (.int .u32 a8)), .c (.sc (.int .i64 a9))] 62, .ex false [.c (.os 2 0 0 1 (List.length (z3 t96)) none), .c (.sc (.int .i64 a10)), .c (.sc (.int .i64 (p2 t96)))] 33, .fix false (.int .u8) (z3 t96) 5] : List Box) = cm_do.B a0 a1 a2 a3 a4 a5 a6 a7 a8 a9 a10 a11 a12 r))))))))))))))))))))))))))))) ∧ ((a4 == (15 : Int)) = true → ((a4 == (15 : Int)) = true ∧ ((a4 == (15 : Int)) = true ∧ (true = true ∧ (∃ t11 : (List Int), (Fun cfg 24 [.one (.ptr 0 ⟨0, 0, 0, 0⟩)] [(cm_do.c0 a0 a1 a2 a3 a4 a5 a6 a7 a8 a9), .ex false [.c (.os 2 0 0 1 (List.length a12) none), .c (.sc (.int .i64 a10)), .c (.sc (.int .i64 a11))] 33, .fix false (.int .u8) a12 5] (cm_lay.R t11) (cm_lay.B a0 a1 a2 a3 a4 a5 a6 a7 a8 a9 a10 a11 a12 t11) ∧ U) ∧ (cm_do.P r = false ∧ (U) ∧ (U) ∧ (.tup [] : Tm) = cm_do.R r ∧ ([.ex false [.c (.ip 29 1), .row 16 (.int .u32) t11, .c (.sc (.int .u32 a1)), .c (.sc (.int .u32 a2)), .row 4 (.int .u64) a3, .c (.sc (.int .i64 a4)), .c (.sc (.int .i64 a5)), .c (.sc (.int .i64 a6)), .c (.sc (.int .i64 a7)), .c (.sc (.int .u32 a8)), .c (.sc (.int .i64 a9))] 62, .ex false [.c (.os 2 0 0 1 (List.length a12) none), .c (.sc (.int .i64 a10)), .c (.sc (.int .i64 a11))] 33, .fix false (.int .u8) a12 5] : List Box) = cm_do.B a0 a1 a2 a3 a4 a5 a6 a7 a8 a9 a10 a11 a12 r)))))))))) ∧ ((a4 == (3 : Int)) = true → ((a4 == (3 : Int)) = true ∧ ((a4 == (3 : Int)) = true ∧ (true = true ∧ (true = true ∧ (true = true ∧ (true = true ∧ (∃ t9 : (List Int), (Fun cfg 24 [.one (.ptr 0 ⟨0, 0, 0, 0⟩)] [(cm_do.c0 a0 a1 a2 a3 a4 a5 a6 a7 a8 a9), .ex false [.c (.os 2 0 0 1 (List.length a12) none), .c (.sc (.int .i64 a10)), .c (.sc (.int .i64 a11))] 33, .fix false (.int .u8) a12 5] (cm_lay.R t9) (cm_lay.B a0 a1 a2 a3 a4 a5 a6 a7 a8 a9 a10 a11 a12 t9) ∧ U) ∧ (cm_do.P r = false ∧ (U) ∧ (U) ∧ (.tup [] : Tm) = cm_do.R r ∧ ([.ex false [.c (.ip 29 1), .row 16 (.int .u32) t9, .c (.sc (.int .u32 a1)), .c (.sc (.int .u32 a2)), .row 4 (.int .u64) a3, .c (.sc (.int .i64 a4)), .c (.sc (.int .i64 a5)), .c (.sc (.int .i64 a6)), .c (.sc (.int .i64 a7)), .c (.sc (.int .u32 a8)), .c (.sc (.int .i64 a9))] 62, .ex false [.c (.os 2 0 0 1 (List.length a12) none), .c (.sc (.int .i64 a10)), .c (.sc (.int .i64 a11))] 33, .fix false (.int .u8) a12 5] : List Box) = cm_do.B a0 a1 a2 a3 a4 a5 a6 a7 a8 a9 a10 a11 a12 r))))))))))))) ∧ ((a4 == (2 : Int)) = true → ((a4 == (2 : Int)) = true ∧ ((a4 == (2 : Int)) = true ∧ (true = true ∧ (true = true ∧ (true = true ∧ (true = true ∧ (true = true ∧ (true = true ∧ (true = true ∧ (∃ t7 : (List Int), (Fun cfg 24 [.one (.ptr 0 ⟨0, 0, 0, 0⟩)] [(cm_do.c0 a0 a1 a2 a3 a4 a5 a6 a7 a8 a9), .ex false [.c (.os 2 0 0 1 (List.length a12) none), .c (.sc (.int .i64 a10)), .c (.sc (.int .i64 a11))] 33, .fix false (.int .u8) a12 5] (cm_lay.R t7) (cm_lay.B a0 a1 a2 a3 a4 a5 a6 a7 a8 a9 a10 a11 a12 t7) ∧ U) ∧ (cm_do.P r = false ∧ (U) ∧ (U) ∧ (.tup [] : Tm) = cm_do.R r ∧ ([.ex false [.c (.ip 29 1), .row 16 (.int .u32) t7, .c (.sc (.int .u32 a1)), .c (.sc (.int .u32 a2)), .row 4 (.int .u64) a3, .c (.sc (.int .i64 a4)), .c (.sc (.int .i64 a5)), .c (.sc (.int .i64 a6)), .c (.sc (.int .i64 a7)), .c (.sc (.int .u32 a8)), .c (.sc (.int .i64 a9))] 62, .ex false [.c (.os 2 0 0 1 (List.length a12) none), .c (.sc (.int .i64 a10)), .c (.sc (.int .i64 a11))] 33, .fix false (.int .u8) a12 5] : List Box) = cm_do.B a0 a1 a2 a3 a4 a5 a6 a7 a8 a9 a10 a11 a12 r)))))))))))))))) ∧ ((a4 == (1 : Int)) = true → ((a4 == (1 : Int)) = true ∧ ((a4 == (1 : Int)) = true ∧ (true = true ∧ (true = true ∧ (true = true ∧ (true = true ∧ (true = true ∧ (true = true ∧ (true = true ∧ (true = true ∧ (true = true ∧ (true = true ∧ (∃ t5 : (List Int), (Fun cfg 24 [.one (.ptr 0 ⟨0, 0, 0, 0⟩)] [(cm_do.c0 a0 a1 a2 a3 a4 a5 a6 a7 a8 a9), .ex false [.c (.os 2 0 0 1 (List.length a12) none), .c (.sc (.int .i64 a10)), .c (.sc (.int .i64 a11))] 33, .fix false (.int .u8) a12 5] (cm_lay.R t5) (cm_lay.B a0 a1 a2 a3 a4 a5 a6 a7 a8 a9 a10 a11 a12 t5) ∧ U) ∧ (cm_do.P r = false ∧ (U) ∧ (U) ∧ (.tup [] : Tm) = cm_do.R r ∧ ([.ex false [.c (.ip 29 1), .row 16 (.int .u32) t5, .c (.sc (.int .u32 a1)), .c (.sc (.int .u32 a2)), .row 4 (.int .u64) a3, .c (.sc (.int .i64 a4)), .c (.sc (.int .i64 a5)), .c (.sc (.int .i64 a6)), .c (.sc (.int .i64 a7)), .c (.sc (.int .u32 a8)), .c (.sc (.int .i64 a9))] 62, .ex false [.c (.os 2 0 0 1 (List.length a12) none), .c (.sc (.int .i64 a10)), .c (.sc (.int .i64 a11))] 33, .fix false (.int .u8) a12 5] : List Box) = cm_do.B a0 a1 a2 a3 a4 a5 a6 a7 a8 a9 a10 a11 a12 r))))))))))))))))))))))) (by kernel_rfl) ?_)
  refine ⟨T, T, ?_⟩
  refine ⟨fun b1 => ?_, fun b1 => ?_⟩
  · rw [if_pos (beq_t b1)] at h
    refine tI ?_
    obtain rfl := oi h
    exact ⟨rfl, T, T, rfl, rfl⟩
  · rw [if_neg (beq_f b1)] at h
    refine tI ?_
    refine ⟨fun b2 => ?_, fun b2 => ?_⟩
    · rw [if_pos (beq_t b2)] at h
      refine ⟨T, T, ?_⟩
      obtain rfl := oi h
      exact ⟨rfl, T, T, rfl, rfl⟩
    · rw [if_neg (beq_f b2)] at h
      refine tI ?_
      refine ⟨fun b3 => ?_, fun b3 => ?_⟩
      · rw [if_pos (beq_t b3)] at h
        refine ⟨T, T, ?_⟩
        obtain rfl := oi h
        exact ⟨rfl, T, T, rfl, rfl⟩
      · rw [if_neg (beq_f b3)] at h
        refine tI ?_
        refine ⟨fun b4 => ?_, fun b4 => ?_⟩
        · rw [if_neg (beq_f b4)] at h
          refine ⟨b4, ?_⟩
          refine tI ?_
          refine ⟨b4, ?_⟩
          refine ⟨fun b6 => ?_, fun b6 => ?_⟩
          · rw [if_neg (beq_f b6)] at h
            refine ⟨b6, ?_⟩
            refine tI ?_
            refine ⟨b6, ?_⟩
            refine ⟨fun b8 => ?_, fun b8 => ?_⟩
            · rw [if_neg (beq_f b8)] at h
              refine ⟨b8, ?_⟩
              refine tI ?_
              refine ⟨b8, ?_⟩
              refine ⟨fun b10 => ?_, fun b10 => ?_⟩
              · rw [if_neg (beq_f b10)] at h
                refine ⟨b10, ?_⟩
                refine tI ?_
                refine ⟨b10, ?_⟩
                refine ⟨fun b12 => ?_, fun b12 => ?_⟩
                · rw [if_pos (beq_t b12)] at h
                  obtain ⟨t13, ht13, h⟩ := of_bind h
                  refine ⟨t13, ⟨cm_lay.fun_ ht13, T⟩, ?_⟩
                  obtain rfl := oi h
                  exact ⟨rfl, T, T, rfl, rfl⟩
                · rw [if_neg (beq_f b12)] at h
                  refine tI ?_
                  refine ⟨fun b14 => ?_, fun b14 => ?_⟩
                  · rw [if_pos (dT_ b14)] at h
                    refine ⟨b14, ?_⟩
                    refine tI ?_
                    refine ⟨b14, ?_⟩
                    refine ⟨fun b15 => ?_, fun b15 => ?_⟩
                    · rw [if_neg (dF_ b15)] at h
                      refine ⟨b15, ?_⟩
                      refine tI ?_
                      refine ⟨b15, ?_⟩
                      refine ⟨fun b19 => ?_, fun b19 => ?_⟩
                      · rw [if_pos (beq_t b19)] at h
                        obtain ⟨t20, ht20, h⟩ := of_bind h
                        rcases t20 with t21 | t22
                        · dsimp only at h
                          left
                          refine ⟨t21, ⟨cm_reckon.fun_ ht20, T⟩, ?_⟩
                          obtain rfl := oi h
                          exact ⟨rfl, T, rfl, rfl⟩
                        · dsimp only at h
                          right
                          refine ⟨t22, ⟨cm_reckon.fun_ ht20, T⟩, ?_⟩
                          obtain rfl := oi h
                          exact ⟨rfl, T, T, rfl, rfl⟩
                      · rw [if_neg (beq_f b19)] at h
                        refine tI ?_
                        refine ⟨fun b23 => ?_, fun b23 => ?_⟩
                        · rw [if_pos (dT_ b23)] at h
                          refine ⟨b23, ?_⟩
                          refine tI ?_
                          refine ⟨b23, ?_⟩
                          refine ⟨fun b24 => ?_, fun b24 => ?_⟩
                          · rw [if_neg (dF_ b24)] at h
                            refine ⟨b24, ?_⟩
                            refine tI ?_
                            refine ⟨b24, ?_⟩
                            refine ⟨fun b28 => ?_, fun b28 => ?_⟩
                            · rw [if_neg (beq_f b28)] at h
                              refine ⟨b28, ?_⟩
                              refine tI ?_
                              refine ⟨b28, ?_⟩
                              refine ⟨fun b32 => ?_, fun b32 => ?_⟩
                              · rw [if_pos (beq_t b32)] at h
                                obtain ⟨t33, ht33, h⟩ := of_bind h
                                rcases t33 with t34 | t35
                                · dsimp only at h
                                  right
                                  refine ⟨t34, ⟨cm_move.fun_ ht33, T⟩, ?_⟩
                                  obtain rfl := oi h
                                  exact ⟨rfl, T, T, rfl, rfl⟩
                                · dsimp only at h
                                  left
                                  refine ⟨t35, ⟨cm_move.fun_ ht33, T⟩, ?_⟩
                                  obtain rfl := oi h
                                  exact ⟨rfl, T, rfl, rfl⟩
                              · rw [if_neg (beq_f b32)] at h
                                refine tI ?_
                                refine ⟨fun b36 => ?_, fun b36 => ?_⟩
                                · rw [if_pos (dT_ b36)] at h
                                  refine ⟨b36, ?_⟩
                                  refine tI ?_
                                  refine ⟨b36, ?_⟩
                                  refine ⟨fun b37 => ?_, fun b37 => ?_⟩
                                  · rw [if_pos (dT_ b37)] at h
                                    obtain ⟨t38, ht38, h⟩ := of_bind h
                                    rcases t38 with t39 | t40
                                    · dsimp only at h
                                      right
                                      refine ⟨t39, ⟨cm_leap.fun_ ht38, T⟩, ?_⟩
                                      obtain rfl := oi h
                                      exact ⟨rfl, T, T, rfl, rfl⟩
                                    · dsimp only at h
                                      left
                                      refine ⟨t40, ⟨cm_leap.fun_ ht38, T⟩, ?_⟩
                                      obtain rfl := oi h
                                      exact ⟨rfl, T, rfl, rfl⟩
                                  · rw [if_neg (dF_ b37)] at h
                                    obtain ⟨t41, ht41, h⟩ := of_bind h
                                    rcases t41 with t42 | t43
                                    · dsimp only at h
                                      left
                                      refine ⟨t42, ⟨cm_floats.fun_ ht41, T⟩, ?_⟩
                                      obtain rfl := oi h
                                      exact ⟨rfl, T, rfl, rfl⟩
                                    · dsimp only at h
                                      right
                                      refine ⟨t43, ⟨cm_floats.fun_ ht41, T⟩, ?_⟩
                                      obtain rfl := oi h
                                      exact ⟨rfl, T, T, rfl, rfl⟩
                                · rw [if_neg (dF_ b36)] at h
                                  refine ⟨b36, ?_⟩
                                  refine ⟨b36, ?_⟩
                                  refine ⟨rfl, ?_⟩
                                  obtain ⟨t44, ht44, h⟩ := of_bind h
                                  rcases t44 with t45 | t46
                                  · dsimp only at h
                                    left
                                    refine ⟨t45, ⟨cm_floats.fun_ ht44, T⟩, ?_⟩
                                    obtain rfl := oi h
                                    exact ⟨rfl, T, rfl, rfl⟩
                                  · dsimp only at h
                                    right
                                    refine ⟨t46, ⟨cm_floats.fun_ ht44, T⟩, ?_⟩
                                    obtain rfl := oi h
                                    exact ⟨rfl, T, T, rfl, rfl⟩
                            · rw [if_pos (beq_t b28)] at h
                              refine ⟨b28, ?_⟩
                              refine ⟨b28, ?_⟩
                              refine ⟨rfl, ?_⟩
                              obtain ⟨t29, ht29, h⟩ := of_bind h
                              rcases t29 with t30 | t31
                              · dsimp only at h
                                right
                                refine ⟨t30, ⟨cm_move.fun_ ht29, T⟩, ?_⟩
                                obtain rfl := oi h
                                exact ⟨rfl, T, T, rfl, rfl⟩
                              · dsimp only at h
                                left
                                refine ⟨t31, ⟨cm_move.fun_ ht29, T⟩, ?_⟩
                                obtain rfl := oi h
                                exact ⟨rfl, T, rfl, rfl⟩
                          · rw [if_pos (dT_ b24)] at h
                            refine ⟨b24, ?_⟩
                            refine ⟨b24, ?_⟩
                            refine ⟨rfl, rfl, rfl, rfl, ?_⟩
                            obtain ⟨t25, ht25, h⟩ := of_bind h
                            rcases t25 with t26 | t27
                            · dsimp only at h
                              right
                              refine ⟨t26, ⟨cm_move.fun_ ht25, T⟩, ?_⟩
                              obtain rfl := oi h
                              exact ⟨rfl, T, T, rfl, rfl⟩
                            · dsimp only at h
                              left
                              refine ⟨t27, ⟨cm_move.fun_ ht25, T⟩, ?_⟩
                              obtain rfl := oi h
                              exact ⟨rfl, T, rfl, rfl⟩
                        · rw [if_neg (dF_ b23)] at h
                          refine ⟨b23, ?_⟩
                          refine ⟨b23, ?_⟩
                          refine ⟨rfl, rfl, T, rfl, ?_⟩
                          refine ⟨fun b47 => ?_, fun b47 => ?_⟩
                          · rw [if_neg (beq_f b47)] at h
                            refine ⟨b47, ?_⟩
                            refine tI ?_
                            refine ⟨b47, ?_⟩
                            refine ⟨fun b51 => ?_, fun b51 => ?_⟩
                            · rw [if_pos (beq_t b51)] at h
                              obtain ⟨t52, ht52, h⟩ := of_bind h
                              rcases t52 with t53 | t54
                              · dsimp only at h
                                right
                                refine ⟨t53, ⟨cm_move.fun_ ht52, T⟩, ?_⟩
                                obtain rfl := oi h
                                exact ⟨rfl, T, T, rfl, rfl⟩
                              · dsimp only at h
                                left
                                refine ⟨t54, ⟨cm_move.fun_ ht52, T⟩, ?_⟩
                                obtain rfl := oi h
                                exact ⟨rfl, T, rfl, rfl⟩
                            · rw [if_neg (beq_f b51)] at h
                              refine tI ?_
                              refine ⟨fun b55 => ?_, fun b55 => ?_⟩
                              · rw [if_pos (dT_ b55)] at h
                                refine ⟨b55, ?_⟩
                                refine tI ?_
                                refine ⟨b55, ?_⟩
                                refine ⟨fun b56 => ?_, fun b56 => ?_⟩
                                · rw [if_pos (dT_ b56)] at h
                                  obtain ⟨t57, ht57, h⟩ := of_bind h
                                  rcases t57 with t58 | t59
                                  · dsimp only at h
                                    right
                                    refine ⟨t58, ⟨cm_leap.fun_ ht57, T⟩, ?_⟩
                                    obtain rfl := oi h
                                    exact ⟨rfl, T, T, rfl, rfl⟩
                                  · dsimp only at h
                                    left
                                    refine ⟨t59, ⟨cm_leap.fun_ ht57, T⟩, ?_⟩
                                    obtain rfl := oi h
                                    exact ⟨rfl, T, rfl, rfl⟩
                                · rw [if_neg (dF_ b56)] at h
                                  obtain ⟨t60, ht60, h⟩ := of_bind h
                                  rcases t60 with t61 | t62
                                  · dsimp only at h
                                    left
                                    refine ⟨t61, ⟨cm_floats.fun_ ht60, T⟩, ?_⟩
                                    obtain rfl := oi h
                                    exact ⟨rfl, T, rfl, rfl⟩
                                  · dsimp only at h
                                    right
                                    refine ⟨t62, ⟨cm_floats.fun_ ht60, T⟩, ?_⟩
                                    obtain rfl := oi h
                                    exact ⟨rfl, T, T, rfl, rfl⟩
                              · rw [if_neg (dF_ b55)] at h
                                refine ⟨b55, ?_⟩
                                refine ⟨b55, ?_⟩
                                refine ⟨rfl, ?_⟩
                                obtain ⟨t63, ht63, h⟩ := of_bind h
                                rcases t63 with t64 | t65
                                · dsimp only at h
                                  left
                                  refine ⟨t64, ⟨cm_floats.fun_ ht63, T⟩, ?_⟩
                                  obtain rfl := oi h
                                  exact ⟨rfl, T, rfl, rfl⟩
                                · dsimp only at h
                                  right
                                  refine ⟨t65, ⟨cm_floats.fun_ ht63, T⟩, ?_⟩
                                  obtain rfl := oi h
                                  exact ⟨rfl, T, T, rfl, rfl⟩
                          · rw [if_pos (beq_t b47)] at h
                            refine ⟨b47, ?_⟩
                            refine ⟨b47, ?_⟩
                            refine ⟨rfl, ?_⟩
                            obtain ⟨t48, ht48, h⟩ := of_bind h
                            rcases t48 with t49 | t50
                            · dsimp only at h
                              right
                              refine ⟨t49, ⟨cm_move.fun_ ht48, T⟩, ?_⟩
                              obtain rfl := oi h
                              exact ⟨rfl, T, T, rfl, rfl⟩
                            · dsimp only at h
                              left
                              refine ⟨t50, ⟨cm_move.fun_ ht48, T⟩, ?_⟩
                              obtain rfl := oi h
                              exact ⟨rfl, T, rfl, rfl⟩
                    · rw [if_pos (dT_ b15)] at h
                      refine ⟨b15, ?_⟩
                      refine ⟨b15, ?_⟩
                      refine ⟨rfl, ?_⟩
                      obtain ⟨t16, ht16, h⟩ := of_bind h
                      rcases t16 with t17 | t18
                      · dsimp only at h
                        left
                        refine ⟨t17, ⟨cm_reckon.fun_ ht16, T⟩, ?_⟩
                        obtain rfl := oi h
                        exact ⟨rfl, T, rfl, rfl⟩
                      · dsimp only at h
                        right
                        refine ⟨t18, ⟨cm_reckon.fun_ ht16, T⟩, ?_⟩
                        obtain rfl := oi h
                        exact ⟨rfl, T, T, rfl, rfl⟩
                  · rw [if_neg (dF_ b14)] at h
                    refine ⟨b14, ?_⟩
                    refine ⟨b14, ?_⟩
                    refine ⟨rfl, rfl, T, rfl, ?_⟩
                    refine ⟨fun b66 => ?_, fun b66 => ?_⟩
                    · rw [if_pos (beq_t b66)] at h
                      obtain ⟨t67, ht67, h⟩ := of_bind h
                      rcases t67 with t68 | t69
                      · dsimp only at h
                        left
                        refine ⟨t68, ⟨cm_reckon.fun_ ht67, T⟩, ?_⟩
                        obtain rfl := oi h
                        exact ⟨rfl, T, rfl, rfl⟩
                      · dsimp only at h
                        right
                        refine ⟨t69, ⟨cm_reckon.fun_ ht67, T⟩, ?_⟩
                        obtain rfl := oi h
                        exact ⟨rfl, T, T, rfl, rfl⟩
                    · rw [if_neg (beq_f b66)] at h
                      refine tI ?_
                      refine ⟨fun b70 => ?_, fun b70 => ?_⟩
                      · rw [if_pos (dT_ b70)] at h
                        refine ⟨b70, ?_⟩
                        refine tI ?_
                        refine ⟨b70, ?_⟩
                        refine ⟨fun b71 => ?_, fun b71 => ?_⟩
                        · rw [if_neg (dF_ b71)] at h
                          refine ⟨b71, ?_⟩
                          refine tI ?_
                          refine ⟨b71, ?_⟩
                          refine ⟨fun b75 => ?_, fun b75 => ?_⟩
                          · rw [if_neg (beq_f b75)] at h
                            refine ⟨b75, ?_⟩
                            refine tI ?_
                            refine ⟨b75, ?_⟩
                            refine ⟨fun b79 => ?_, fun b79 => ?_⟩
                            · rw [if_pos (beq_t b79)] at h
                              obtain ⟨t80, ht80, h⟩ := of_bind h
                              rcases t80 with t81 | t82
                              · dsimp only at h
                                right
                                refine ⟨t81, ⟨cm_move.fun_ ht80, T⟩, ?_⟩
                                obtain rfl := oi h
                                exact ⟨rfl, T, T, rfl, rfl⟩
                              · dsimp only at h
                                left
                                refine ⟨t82, ⟨cm_move.fun_ ht80, T⟩, ?_⟩
                                obtain rfl := oi h
                                exact ⟨rfl, T, rfl, rfl⟩
                            · rw [if_neg (beq_f b79)] at h
                              refine tI ?_
                              refine ⟨fun b83 => ?_, fun b83 => ?_⟩
                              · rw [if_pos (dT_ b83)] at h
                                refine ⟨b83, ?_⟩
                                refine tI ?_
                                refine ⟨b83, ?_⟩
                                refine ⟨fun b84 => ?_, fun b84 => ?_⟩
                                · rw [if_pos (dT_ b84)] at h
                                  obtain ⟨t85, ht85, h⟩ := of_bind h
                                  rcases t85 with t86 | t87
                                  · dsimp only at h
                                    right
                                    refine ⟨t86, ⟨cm_leap.fun_ ht85, T⟩, ?_⟩
                                    obtain rfl := oi h
                                    exact ⟨rfl, T, T, rfl, rfl⟩
                                  · dsimp only at h
                                    left
                                    refine ⟨t87, ⟨cm_leap.fun_ ht85, T⟩, ?_⟩
                                    obtain rfl := oi h
                                    exact ⟨rfl, T, rfl, rfl⟩
                                · rw [if_neg (dF_ b84)] at h
                                  obtain ⟨t88, ht88, h⟩ := of_bind h
                                  rcases t88 with t89 | t90
                                  · dsimp only at h
                                    left
                                    refine ⟨t89, ⟨cm_floats.fun_ ht88, T⟩, ?_⟩
                                    obtain rfl := oi h
                                    exact ⟨rfl, T, rfl, rfl⟩
                                  · dsimp only at h
                                    right
                                    refine ⟨t90, ⟨cm_floats.fun_ ht88, T⟩, ?_⟩
                                    obtain rfl := oi h
                                    exact ⟨rfl, T, T, rfl, rfl⟩
                              · rw [if_neg (dF_ b83)] at h
                                refine ⟨b83, ?_⟩
                                refine ⟨b83, ?_⟩
                                refine ⟨rfl, ?_⟩
                                obtain ⟨t91, ht91, h⟩ := of_bind h
                                rcases t91 with t92 | t93
                                · dsimp only at h
                                  left
                                  refine ⟨t92, ⟨cm_floats.fun_ ht91, T⟩, ?_⟩
                                  obtain rfl := oi h
                                  exact ⟨rfl, T, rfl, rfl⟩
                                · dsimp only at h
                                  right
                                  refine ⟨t93, ⟨cm_floats.fun_ ht91, T⟩, ?_⟩
                                  obtain rfl := oi h
                                  exact ⟨rfl, T, T, rfl, rfl⟩
                          · rw [if_pos (beq_t b75)] at h
                            refine ⟨b75, ?_⟩
                            refine ⟨b75, ?_⟩
                            refine ⟨rfl, ?_⟩
                            obtain ⟨t76, ht76, h⟩ := of_bind h
                            rcases t76 with t77 | t78
                            · dsimp only at h
                              right
                              refine ⟨t77, ⟨cm_move.fun_ ht76, T⟩, ?_⟩
                              obtain rfl := oi h
                              exact ⟨rfl, T, T, rfl, rfl⟩
                            · dsimp only at h
                              left
                              refine ⟨t78, ⟨cm_move.fun_ ht76, T⟩, ?_⟩
                              obtain rfl := oi h
                              exact ⟨rfl, T, rfl, rfl⟩
                        · rw [if_pos (dT_ b71)] at h
                          refine ⟨b71, ?_⟩
                          refine ⟨b71, ?_⟩
                          refine ⟨rfl, rfl, rfl, rfl, ?_⟩
                          obtain ⟨t72, ht72, h⟩ := of_bind h
                          rcases t72 with t73 | t74
                          · dsimp only at h
                            right
                            refine ⟨t73, ⟨cm_move.fun_ ht72, T⟩, ?_⟩
                            obtain rfl := oi h
                            exact ⟨rfl, T, T, rfl, rfl⟩
                          · dsimp only at h
                            left
                            refine ⟨t74, ⟨cm_move.fun_ ht72, T⟩, ?_⟩
                            obtain rfl := oi h
                            exact ⟨rfl, T, rfl, rfl⟩
                      · rw [if_neg (dF_ b70)] at h
                        refine ⟨b70, ?_⟩
                        refine ⟨b70, ?_⟩
                        refine ⟨rfl, rfl, T, rfl, ?_⟩
                        refine ⟨fun b94 => ?_, fun b94 => ?_⟩
                        · rw [if_neg (beq_f b94)] at h
                          refine ⟨b94, ?_⟩
                          refine tI ?_
                          refine ⟨b94, ?_⟩
                          refine ⟨fun b98 => ?_, fun b98 => ?_⟩
                          · rw [if_pos (beq_t b98)] at h
                            obtain ⟨t99, ht99, h⟩ := of_bind h
                            rcases t99 with t100 | t101
                            · dsimp only at h
                              right
                              refine ⟨t100, ⟨cm_move.fun_ ht99, T⟩, ?_⟩
                              obtain rfl := oi h
                              exact ⟨rfl, T, T, rfl, rfl⟩
                            · dsimp only at h
                              left
                              refine ⟨t101, ⟨cm_move.fun_ ht99, T⟩, ?_⟩
                              obtain rfl := oi h
                              exact ⟨rfl, T, rfl, rfl⟩
                          · rw [if_neg (beq_f b98)] at h
                            refine tI ?_
                            refine ⟨fun b102 => ?_, fun b102 => ?_⟩
                            · rw [if_pos (dT_ b102)] at h
                              refine ⟨b102, ?_⟩
                              refine tI ?_
                              refine ⟨b102, ?_⟩
                              refine ⟨fun b103 => ?_, fun b103 => ?_⟩
                              · rw [if_pos (dT_ b103)] at h
                                obtain ⟨t104, ht104, h⟩ := of_bind h
                                rcases t104 with t105 | t106
                                · dsimp only at h
                                  right
                                  refine ⟨t105, ⟨cm_leap.fun_ ht104, T⟩, ?_⟩
                                  obtain rfl := oi h
                                  exact ⟨rfl, T, T, rfl, rfl⟩
                                · dsimp only at h
                                  left
                                  refine ⟨t106, ⟨cm_leap.fun_ ht104, T⟩, ?_⟩
                                  obtain rfl := oi h
                                  exact ⟨rfl, T, rfl, rfl⟩
                              · rw [if_neg (dF_ b103)] at h
                                obtain ⟨t107, ht107, h⟩ := of_bind h
                                rcases t107 with t108 | t109
                                · dsimp only at h
                                  left
                                  refine ⟨t108, ⟨cm_floats.fun_ ht107, T⟩, ?_⟩
                                  obtain rfl := oi h
                                  exact ⟨rfl, T, rfl, rfl⟩
                                · dsimp only at h
                                  right
                                  refine ⟨t109, ⟨cm_floats.fun_ ht107, T⟩, ?_⟩
                                  obtain rfl := oi h
                                  exact ⟨rfl, T, T, rfl, rfl⟩
                            · rw [if_neg (dF_ b102)] at h
                              refine ⟨b102, ?_⟩
                              refine ⟨b102, ?_⟩
                              refine ⟨rfl, ?_⟩
                              obtain ⟨t110, ht110, h⟩ := of_bind h
                              rcases t110 with t111 | t112
                              · dsimp only at h
                                left
                                refine ⟨t111, ⟨cm_floats.fun_ ht110, T⟩, ?_⟩
                                obtain rfl := oi h
                                exact ⟨rfl, T, rfl, rfl⟩
                              · dsimp only at h
                                right
                                refine ⟨t112, ⟨cm_floats.fun_ ht110, T⟩, ?_⟩
                                obtain rfl := oi h
                                exact ⟨rfl, T, T, rfl, rfl⟩
                        · rw [if_pos (beq_t b94)] at h
                          refine ⟨b94, ?_⟩
                          refine ⟨b94, ?_⟩
                          refine ⟨rfl, ?_⟩
                          obtain ⟨t95, ht95, h⟩ := of_bind h
                          rcases t95 with t96 | t97
                          · dsimp only at h
                            right
                            refine ⟨t96, ⟨cm_move.fun_ ht95, T⟩, ?_⟩
                            obtain rfl := oi h
                            exact ⟨rfl, T, T, rfl, rfl⟩
                          · dsimp only at h
                            left
                            refine ⟨t97, ⟨cm_move.fun_ ht95, T⟩, ?_⟩
                            obtain rfl := oi h
                            exact ⟨rfl, T, rfl, rfl⟩
              · rw [if_pos (beq_t b10)] at h
                refine ⟨b10, ?_⟩
                refine ⟨b10, ?_⟩
                refine ⟨rfl, ?_⟩
                obtain ⟨t11, ht11, h⟩ := of_bind h
                refine ⟨t11, ⟨cm_lay.fun_ ht11, T⟩, ?_⟩
                obtain rfl := oi h
                exact ⟨rfl, T, T, rfl, rfl⟩
            · rw [if_pos (beq_t b8)] at h
              refine ⟨b8, ?_⟩
              refine ⟨b8, ?_⟩
              refine ⟨rfl, rfl, rfl, rfl, ?_⟩
              obtain ⟨t9, ht9, h⟩ := of_bind h
              refine ⟨t9, ⟨cm_lay.fun_ ht9, T⟩, ?_⟩
              obtain rfl := oi h
              exact ⟨rfl, T, T, rfl, rfl⟩
          · rw [if_pos (beq_t b6)] at h
            refine ⟨b6, ?_⟩
            refine ⟨b6, ?_⟩
            refine ⟨rfl, rfl, rfl, rfl, rfl, rfl, rfl, ?_⟩
            obtain ⟨t7, ht7, h⟩ := of_bind h
            refine ⟨t7, ⟨cm_lay.fun_ ht7, T⟩, ?_⟩
            obtain rfl := oi h
            exact ⟨rfl, T, T, rfl, rfl⟩
        · rw [if_pos (beq_t b4)] at h
          refine ⟨b4, ?_⟩
          refine ⟨b4, ?_⟩
          refine ⟨rfl, rfl, rfl, rfl, rfl, rfl, rfl, rfl, rfl, rfl, ?_⟩
          obtain ⟨t5, ht5, h⟩ := of_bind h
          refine ⟨t5, ⟨cm_lay.fun_ ht5, T⟩, ?_⟩
          obtain rfl := oi h
          exact ⟨rfl, T, T, rfl, rfl⟩
def cm_run.c0 (t11 : TY0) (t7 : Int × Int × Int × Int × (Option Int)) (a8 : Int) : Box := .ex false [.c (.ip 29 1), .row 16 (.int .u32) t11.1, .c (.sc (.int .u32 t11.2.1)), .c (.sc (.int .u32 (p2 t11))), .row 4 (.int .u64) (p3 t11), .c (.sc (.int .i64 t7.1)), .c (.sc (.int .i64 t7.2.1)), .c (.sc (.int .i64 (p2 t7))), .c (.sc (.int .i64 (p3 t7))), .c (.sc (.int .u32 a8)), .c (.sc (.int .i64 (p4 t11)))] 62
def cm_run.c1 (a0 : (List Int)) (a1 : Int) (a2 : Int) (a3 : (List Int)) (t7 : Int × Int × Int × Int × (Option Int)) (a8 : Int) (a9 : Int) : Box := .ex false [.c (.ip 29 1), .row 16 (.int .u32) a0, .c (.sc (.int .u32 (IntKind.wrap .u32 (a1 + (4 : Int))))), .c (.sc (.int .u32 a2)), .row 4 (.int .u64) a3, .c (.sc (.int .i64 t7.1)), .c (.sc (.int .i64 t7.2.1)), .c (.sc (.int .i64 (p2 t7))), .c (.sc (.int .i64 (p3 t7))), .c (.sc (.int .u32 a8)), .c (.sc (.int .i64 a9))] 62
def cm_run.c2 (a0 : (List Int)) (a1 : Int) (a2 : Int) (a3 : (List Int)) (a4 : Int) (a5 : Int) (a6 : Int) (a7 : Int) (a8 : Int) (a9 : Int) : Box := .ex false [.c (.ip 29 1), .row 16 (.int .u32) a0, .c (.sc (.int .u32 a1)), .c (.sc (.int .u32 a2)), .row 4 (.int .u64) a3, .c (.sc (.int .i64 a4)), .c (.sc (.int .i64 a5)), .c (.sc (.int .i64 a6)), .c (.sc (.int .i64 a7)), .c (.sc (.int .u32 a8)), .c (.sc (.int .i64 a9))] 62
def cm_run.f (a0 : (List Int)) (a1 : Int) (a2 : Int) (a3 : (List Int)) (a4 : Int) (a5 : Int) (a6 : Int) (a7 : Int) (a8 : Int) (a9 : Int) (a10 : Int) (a11 : Int) (a12 : (List Int)) : Option ((TY4) ⊕ (TY3)) :=
  (cpu_whole.f a8 (4 : Int)).bind fun t1 =>
  match t1 with
  | .inl t2 =>
    some (.inl (t2.1, t2.2, a1, a4, a5, a6, a7, a10, a11, a12))
  | .inr t3 =>
    (halterlaw12_board_Fetch.f a8 a10 a11 a12).bind fun t4 =>
    (cpu_told.f t4.2.1 a8).bind fun t5 =>
    match t5 with
    | .inl t6 =>
      (isa_Decode.f t4.1).bind fun t7 =>
      if ¬ (t7.2.2.2.2 = none) then
        (cpu_fail.f (4 : Int) a8).bind fun t9 =>
        some (.inl (t9.1, t9.2, a1, t7.1, t7.2.1, t7.2.2.1, t7.2.2.2.1, t4.2.2, a11, a12))
      else
        (cm_do.f a0 (IntKind.wrap .u32 (a1 + (4 : Int))) a2 a3 t7.1 t7.2.1 t7.2.2.1 t7.2.2.2.1 a8 a9 t4.2.2 a11 a12).bind fun t10 =>
        match t10 with
        | .inl t11 =>
          if t11.2.2.2.2.1 = (0 : Int) then
            if ¬ (bits .and .u32 t11.2.2.1 (16 : Int)) = (0 : Int) then
              some (.inr (t11.1, t11.2.1, t11.2.2.1, t11.2.2.2.1, t7.1, t7.2.1, t7.2.2.1, t7.2.2.2.1, (3 : Int), t4.2.2, t11.2.2.2.2.2.1, t11.2.2.2.2.2.2))
            else
              some (.inr (t11.1, t11.2.1, t11.2.2.1, t11.2.2.2.1, t7.1, t7.2.1, t7.2.2.1, t7.2.2.2.1, t11.2.2.2.2.1, t4.2.2, t11.2.2.2.2.2.1, t11.2.2.2.2.2.2))
          else
            some (.inr (t11.1, t11.2.1, t11.2.2.1, t11.2.2.2.1, t7.1, t7.2.1, t7.2.2.1, t7.2.2.2.1, t11.2.2.2.2.1, t4.2.2, t11.2.2.2.2.2.1, t11.2.2.2.2.2.2))
        | .inr t14 =>
          some (.inl (t14.1, t14.2.1, (IntKind.wrap .u32 (a1 + (4 : Int))), t7.1, t7.2.1, t7.2.2.1, t7.2.2.2.1, t4.2.2, t14.2.2.1, t14.2.2.2))
    | .inr t15 =>
      some (.inl (t15.1, t15.2, a1, a4, a5, a6, a7, t4.2.2, a11, a12))
def cm_run.R : (TY4) ⊕ (TY3) → Tm
  | .inl r => .v (.one (.sc (.iface 64 (.agg #[.int .i64 r.1, .int .u32 r.2.1]))))
  | .inr r => .tup []
def cm_run.B (a0 : (List Int)) (a1 : Int) (a2 : Int) (a3 : (List Int)) (a4 : Int) (a5 : Int) (a6 : Int) (a7 : Int) (a8 : Int) (a9 : Int) (a10 : Int) (a11 : Int) (a12 : (List Int)) : (TY4) ⊕ (TY3) → List Box
  | .inl r => [.ex false [.c (.ip 29 1), .row 16 (.int .u32) a0, .c (.sc (.int .u32 r.2.2.1)), .c (.sc (.int .u32 a2)), .row 4 (.int .u64) a3, .c (.sc (.int .i64 r.2.2.2.1)), .c (.sc (.int .i64 r.2.2.2.2.1)), .c (.sc (.int .i64 r.2.2.2.2.2.1)), .c (.sc (.int .i64 r.2.2.2.2.2.2.1)), .c (.sc (.int .u32 a8)), .c (.sc (.int .i64 a9))] 62, .ex false [.c (.os 2 0 0 1 (List.length r.2.2.2.2.2.2.2.2.2) none), .c (.sc (.int .i64 r.2.2.2.2.2.2.2.1)), .c (.sc (.int .i64 r.2.2.2.2.2.2.2.2.1))] 33, .fix false (.int .u8) r.2.2.2.2.2.2.2.2.2 5]
  | .inr r => [.ex false [.c (.ip 29 1), .row 16 (.int .u32) r.1, .c (.sc (.int .u32 r.2.1)), .c (.sc (.int .u32 r.2.2.1)), .row 4 (.int .u64) r.2.2.2.1, .c (.sc (.int .i64 r.2.2.2.2.1)), .c (.sc (.int .i64 r.2.2.2.2.2.1)), .c (.sc (.int .i64 r.2.2.2.2.2.2.1)), .c (.sc (.int .i64 r.2.2.2.2.2.2.2.1)), .c (.sc (.int .u32 a8)), .c (.sc (.int .i64 r.2.2.2.2.2.2.2.2.1))] 62, .ex false [.c (.os 2 0 0 1 (List.length r.2.2.2.2.2.2.2.2.2.2.2) none), .c (.sc (.int .i64 r.2.2.2.2.2.2.2.2.2.1)), .c (.sc (.int .i64 r.2.2.2.2.2.2.2.2.2.2.1))] 33, .fix false (.int .u8) r.2.2.2.2.2.2.2.2.2.2.2 5]
def cm_run.P : (TY4) ⊕ (TY3) → Bool
  | .inl _ => true
  | .inr _ => false
theorem cm_run.P_ : ∀ r : (TY4) ⊕ (TY3), cm_run.P r = true → ∃ t p, cm_run.R r = .v (.one (.sc (.iface t p)))
  | .inl _, h => ⟨_, _, rfl⟩
  | .inr _, h => by cases h
theorem cm_run.fun_ {a0 : (List Int)} {a1 : Int} {a2 : Int} {a3 : (List Int)} {a4 : Int} {a5 : Int} {a6 : Int} {a7 : Int} {a8 : Int} {a9 : Int} {a10 : Int} {a11 : Int} {a12 : (List Int)} {r : (TY4) ⊕ (TY3)} (h : cm_run.f a0 a1 a2 a3 a4 a5 a6 a7 a8 a9 a10 a11 a12 = some r) : FunG cfg 16 [.one (.ptr 0 ⟨0, 0, 0, 0⟩)] (kB0 a0 a1 a2 a3 a4 a5 a6 a7 a8 a9 a12 a10 a11) (cm_run.P r) (cm_run.R r) (cm_run.B a0 a1 a2 a3 a4 a5 a6 a7 a8 a9 a10 a11 a12 r) := by
  unfold cm_run.f at h
  refine funG_of_run cfg_ok (f := 16) (fn := Try.f16) Try.func16 rfl (by kernel_rfl) (rs := []) rfl (nt := 72) rfl (l := fin) (ho := cm_run.P_ r) (k := (.orx (.callX true [] [] (Int × Int) (fun t2 => (.iface 64 (.agg #[.int .i64 t2.1, .int .u32 t2.2]))) (fun t2 => (cpu_whole.B a8 (4 : Int) (.inl t2))) (fun t2 => (.adj [] .nil))) (.callR true [] [] (Unit) (fun t3 => (cpu_whole.R (.inr t3))) (fun t3 => (cpu_whole.B a8 (4 : Int) (.inr t3))) (fun t3 => (.ex (Int × (Option Int) × Int) (fun t4 => (.dr (nd [0, 1, 2, 4, 5, 6, 3, 8, 9, 7] ([(10, ⟨none, .callR true [] [1, 2] (halterlaw12_board_Fetch.R t4) (halterlaw12_board_Fetch.B a8 a10 a11 a12 t4), false⟩)] ++ (nr 11 5 []))) (.orx (.callX true [] [] (Int × Int) (fun t15 => (.iface 64 (.agg #[.int .i64 t15.1, .int .u32 t15.2]))) (fun t15 => (cpu_told.B t4.2.1 a8 (.inr t15))) (fun t15 => (.adj [] .nil))) (.callR true [] [] (Unit) (fun t6 => (cpu_told.R (.inl t6))) (fun t6 => (cpu_told.B t4.2.1 a8 (.inl t6))) (fun t6 => (.call true [] (Int × Int × Int × Int × (Option Int)) isa_Decode.R (fun t7 => (.br (.callX true [] [] (Int × Int) (fun t9 => (.iface 64 (.agg #[.int .i64 t9.1, .int .u32 t9.2]))) (fun t9 => (cpu_fail.B (4 : Int) a8 t9)) (fun t9 => (.adj [] .nil))) (.orx (.callX true [] [0, 1, 2] (Int × Int × Int × (List Int)) (fun t14 => (.iface 64 (.agg #[.int .i64 t14.1, .int .u32 t14.2.1]))) (fun t14 => (cm_do.B a0 (IntKind.wrap .u32 (a1 + (4 : Int))) a2 a3 t7.1 t7.2.1 (p2 t7) (p3 t7) a8 a9 (z2 t4) a11 a12 (.inr t14))) (fun t14 => (.adj [] .nil))) (.callR true [] [0, 1, 2] (TY0) (fun t11 => (cm_do.R (.inl t11))) (fun t11 => (cm_do.B a0 (IntKind.wrap .u32 (a1 + (4 : Int))) a2 a3 t7.1 t7.2.1 (p2 t7) (p3 t7) a8 a9 (z2 t4) a11 a12 (.inl t11))) (fun t11 => (.br (oT 7 (.br (aE 2 .nil) (aE 2 .nil))) (oF 8 (aE 2 .nil))))))))))))))))))) (to_goal (q := (U) ∧ ((∃ t2 : Int × Int, (FunX cfg 18 [.one (.sc (.int .u32 a8)), .one (.sc (.int .u32 (4 : Int)))] [] (.iface 64 (.agg #[.int .i64 t2.1, .int .u32 t2.2])) (cpu_whole.B a8 (4 : Int) (.inl t2)) ∧ U) ∧ (cm_run.P r = true ∧ (U) ∧ (.v (.one (.sc (.iface 64 (.agg #[.int .i64 t2.1, .int .u32 t2.2])))) : Tm) = cm_run.R r ∧ ([(cm_run.c2 a0 a1 a2 a3 a4 a5 a6 a7 a8 a9), .ex false [.c (.os 2 0 0 1 (List.length a12) none), .c (.sc (.int .i64 a10)), .c (.sc (.int .i64 a11))] 33, .fix false (.int .u8) a12 5] : List Box) = cm_run.B a0 a1 a2 a3 a4 a5 a6 a7 a8 a9 a10 a11 a12 r)) ∨ (∃ t3 : Unit, (Fun cfg 18 [.one (.sc (.int .u32 a8)), .one (.sc (.int .u32 (4 : Int)))] [] (cpu_whole.R (.inr t3)) (cpu_whole.B a8 (4 : Int) (.inr t3)) ∧ U) ∧ (∃ t4 : Int × (Option Int) × Int, (U) ∧ (U) ∧ (Fun cfg 83 [.one (.ptr 0 ⟨0, 0, 0, 0⟩), .one (.sc (.int .u32 a8))] (kB1 a12 a10 a11) (halterlaw12_board_Fetch.R t4) (halterlaw12_board_Fetch.B a8 a10 a11 a12 t4) ∧ U) ∧ (U) ∧ ((∃ t15 : Int × Int, (FunX cfg 19 [.one (.err t4.2.1), .one (.sc (.int .u32 a8))] [] (.iface 64 (.agg #[.int .i64 t15.1, .int .u32 t15.2])) (cpu_told.B t4.2.1 a8 (.inr t15)) ∧ U) ∧ (cm_run.P r = true ∧ (U) ∧ (.v (.one (.sc (.iface 64 (.agg #[.int .i64 t15.1, .int .u32 t15.2])))) : Tm) = cm_run.R r ∧ ([(cm_run.c2 a0 a1 a2 a3 a4 a5 a6 a7 a8 a9), .ex false [.c (.os 2 0 0 1 (List.length a12) none), .c (.sc (.int .i64 (z2 t4))), .c (.sc (.int .i64 a11))] 33, .fix false (.int .u8) a12 5] : List Box) = cm_run.B a0 a1 a2 a3 a4 a5 a6 a7 a8 a9 a10 a11 a12 r)) ∨ (∃ t6 : Unit, (Fun cfg 19 [.one (.err t4.2.1), .one (.sc (.int .u32 a8))] [] (cpu_told.R (.inl t6)) (cpu_told.B t4.2.1 a8 (.inl t6)) ∧ U) ∧ (∃ t7 : Int × Int × Int × Int × (Option Int), (Fun cfg 20 [.one (.sc (.int .u32 t4.1))] [] (isa_Decode.R t7) [] ∧ U) ∧ (U) ∧ (U) ∧ (((!(Option.isNone (z4 t7))) = true → (U) ∧ (∃ t9 : Int × Int, (FunX cfg 21 [.one (.sc (.int .i64 (4 : Int))), .one (.sc (.int .u32 a8))] [] (.iface 64 (.agg #[.int .i64 t9.1, .int .u32 t9.2])) (cpu_fail.B (4 : Int) a8 t9) ∧ U) ∧ (cm_run.P r = true ∧ (U) ∧ (.v (.one (.sc (.iface 64 (.agg #[.int .i64 t9.1, .int .u32 t9.2])))) : Tm) = cm_run.R r ∧ ([.ex false [.c (.ip 29 1), .row 16 (.int .u32) a0, .c (.sc (.int .u32 a1)), .c (.sc (.int .u32 a2)), .row 4 (.int .u64) a3, .c (.sc (.int .i64 t7.1)), .c (.sc (.int .i64 t7.2.1)), .c (.sc (.int .i64 (p2 t7))), .c (.sc (.int .i64 (p3 t7))), .c (.sc (.int .u32 a8)), .c (.sc (.int .i64 a9))] 62, .ex false [.c (.os 2 0 0 1 (List.length a12) none), .c (.sc (.int .i64 (z2 t4))), .c (.sc (.int .i64 a11))] 33, .fix false (.int .u8) a12 5] : List Box) = cm_run.B a0 a1 a2 a3 a4 a5 a6 a7 a8 a9 a10 a11 a12 r))) ∧ ((!(Option.isNone (z4 t7))) = false → (U) ∧ (U) ∧ (U) ∧ ((∃ t14 : Int × Int × Int × (List Int), (FunX cfg 22 [.one (.ptr 0 ⟨0, 0, 0, 0⟩)] [(cm_run.c1 a0 a1 a2 a3 t7 a8 a9), .ex false [.c (.os 2 0 0 1 (List.length a12) none), .c (.sc (.int .i64 (z2 t4))), .c (.sc (.int .i64 a11))] 33, .fix false (.int .u8) a12 5] (.iface 64 (.agg #[.int .i64 t14.1, .int .u32 t14.2.1])) (cm_do.B a0 (IntKind.wrap .u32 (a1 + (4 : Int))) a2 a3 t7.1 t7.2.1 (p2 t7) (p3 t7) a8 a9 (z2 t4) a11 a12 (.inr t14)) ∧ U) ∧ (cm_run.P r = true ∧ (U) ∧ (.v (.one (.sc (.iface 64 (.agg #[.int .i64 t14.1, .int .u32 t14.2.1])))) : Tm) = cm_run.R r ∧ ([(cm_run.c1 a0 a1 a2 a3 t7 a8 a9), .ex false [.c (.os 2 0 0 1 (List.length (z3 t14)) none), .c (.sc (.int .i64 (z2 t4))), .c (.sc (.int .i64 (p2 t14)))] 33, .fix false (.int .u8) (z3 t14) 5] : List Box) = cm_run.B a0 a1 a2 a3 a4 a5 a6 a7 a8 a9 a10 a11 a12 r)) ∨ (∃ t11 : TY0, (Fun cfg 22 [.one (.ptr 0 ⟨0, 0, 0, 0⟩)] [(cm_run.c1 a0 a1 a2 a3 t7 a8 a9), .ex false [.c (.os 2 0 0 1 (List.length a12) none), .c (.sc (.int .i64 (z2 t4))), .c (.sc (.int .i64 a11))] 33, .fix false (.int .u8) a12 5] (cm_do.R (.inl t11)) (cm_do.B a0 (IntKind.wrap .u32 (a1 + (4 : Int))) a2 a3 t7.1 t7.2.1 (p2 t7) (p3 t7) a8 a9 (z2 t4) a11 a12 (.inl t11)) ∧ U) ∧ (U) ∧ (U) ∧ ((((p4 t11) == (0 : Int)) = true → (((p4 t11) == (0 : Int)) = true ∧ (((p4 t11) == (0 : Int)) = true ∧ (((p4 t11) == (0 : Int)) = true ∧ (((p4 t11) == (0 : Int)) = true ∧ (U) ∧ (((p4 t11) == (0 : Int)) = true ∧ (U) ∧ (((p4 t11) == (0 : Int)) = true ∧ (U) ∧ (((p4 t11) == (0 : Int)) = true ∧ ((((bits .and .u32 (p2 t11) (16 : Int)) != (0 : Int)) = true → (U ∧ (U) ∧ (cm_run.P r = false ∧ (U) ∧ (U) ∧ (.tup [] : Tm) = cm_run.R r ∧ ([.ex false [.c (.ip 29 1), .row 16 (.int .u32) t11.1, .c (.sc (.int .u32 t11.2.1)), .c (.sc (.int .u32 (p2 t11))), .row 4 (.int .u64) (p3 t11), .c (.sc (.int .i64 t7.1)), .c (.sc (.int .i64 t7.2.1)), .c (.sc (.int .i64 (p2 t7))), .c (.sc (.int .i64 (p3 t7))), .c (.sc (.int .u32 a8)), .c (.sc (.int .i64 (3 : Int)))] 62, .ex false [.c (.os 2 0 0 1 (List.length (z6 t11)) none), .c (.sc (.int .i64 (z2 t4))), .c (.sc (.int .i64 (p5 t11)))] 33, .fix false (.int .u8) (z6 t11) 5] : List Box) = cm_run.B a0 a1 a2 a3 a4 a5 a6 a7 a8 a9 a10 a11 a12 r))) ∧ (((bits .and .u32 (p2 t11) (16 : Int)) != (0 : Int)) = false → (U ∧ (cm_run.P r = false ∧ (U) ∧ (U) ∧ (.tup [] : Tm) = cm_run.R r ∧ ([(cm_run.c0 t11 t7 a8), .ex false [.c (.os 2 0 0 1 (List.length (z6 t11)) none), .c (.sc (.int .i64 (z2 t4))), .c (.sc (.int .i64 (p5 t11)))] 33, .fix false (.int .u8) (z6 t11) 5] : List Box) = cm_run.B a0 a1 a2 a3 a4 a5 a6 a7 a8 a9 a10 a11 a12 r)))))))))))) ∧ (((p4 t11) == (0 : Int)) = false → (((p4 t11) == (0 : Int)) = false ∧ (((p4 t11) == (0 : Int)) = false ∧ (((p4 t11) == (0 : Int)) = false ∧ (((p4 t11) == (0 : Int)) = false ∧ (((p4 t11) == (0 : Int)) = false ∧ (((p4 t11) == (0 : Int)) = false ∧ (((p4 t11) == (0 : Int)) = false ∧ (false = false ∧ (U ∧ (cm_run.P r = false ∧ (U) ∧ (U) ∧ (.tup [] : Tm) = cm_run.R r ∧ ([(cm_run.c0 t11 t7 a8), .ex false [.c (.os 2 0 0 1 (List.length (z6 t11)) none), .c (.sc (.int .i64 (z2 t4))), .c (.sc (.int .i64 (p5 t11)))] 33, .fix false (.int .u8) (z6 t11) 5] : List Box) = cm_run.B a0 a1 a2 a3 a4 a5 a6 a7 a8 a9 a10 a11 a12 r))))))))))))))))))))))) (by kernel_rfl) ?_)
  refine tI ?_
  obtain ⟨t1, ht1, h⟩ := of_bind h
  rcases t1 with t2 | t3
  · dsimp only at h
    left
    refine ⟨t2, ⟨cpu_whole.fun_ ht1, T⟩, ?_⟩
    obtain rfl := oi h
    exact ⟨rfl, T, rfl, rfl⟩
  · dsimp only at h
    right
    refine ⟨t3, ⟨cpu_whole.fun_ ht1, T⟩, ?_⟩
    obtain ⟨t4, ht4, h⟩ := of_bind h
    refine ⟨t4, ?_⟩
    refine ⟨T, T, ⟨halterlaw12_board_Fetch.fun_ ht4, T⟩, ?_⟩
    refine tI ?_
    obtain ⟨t5, ht5, h⟩ := of_bind h
    rcases t5 with t6 | t15
    · dsimp only at h
      right
      refine ⟨t6, ⟨cpu_told.fun_ ht5, T⟩, ?_⟩
      obtain ⟨t7, ht7, h⟩ := of_bind h
      refine ⟨t7, ⟨isa_Decode.fun_ ht7, T⟩, ?_⟩
      refine ⟨T, T, ?_⟩
      refine ⟨fun b8 => ?_, fun b8 => ?_⟩
      · rw [if_pos (none_f (not_t b8))] at h
        refine tI ?_
        obtain ⟨t9, ht9, h⟩ := of_bind h
        refine ⟨t9, ⟨cpu_fail.fun_ ht9, T⟩, ?_⟩
        obtain rfl := oi h
        exact ⟨rfl, T, rfl, rfl⟩
      · rw [if_neg (not_not_intro (none_t (not_f b8)))] at h
        refine ⟨T, T, T, ?_⟩
        obtain ⟨t10, ht10, h⟩ := of_bind h
        rcases t10 with t11 | t14
        · dsimp only at h
          right
          refine ⟨t11, ⟨cm_do.fun_ ht10, T⟩, ?_⟩
          refine ⟨T, T, ?_⟩
          refine ⟨fun b12 => ?_, fun b12 => ?_⟩
          · rw [if_pos (beq_t b12)] at h
            refine ⟨b12, ?_⟩
            refine ⟨b12, ?_⟩
            refine ⟨b12, ?_⟩
            refine ⟨b12, ?_⟩
            refine tI ?_
            refine ⟨b12, ?_⟩
            refine tI ?_
            refine ⟨b12, ?_⟩
            refine tI ?_
            refine ⟨b12, ?_⟩
            refine ⟨fun b13 => ?_, fun b13 => ?_⟩
            · rw [if_pos (bne_t b13)] at h
              refine ⟨T, T, ?_⟩
              obtain rfl := oi h
              exact ⟨rfl, T, T, rfl, rfl⟩
            · rw [if_neg (not_not_intro (bne_f b13))] at h
              refine tI ?_
              obtain rfl := oi h
              exact ⟨rfl, T, T, rfl, rfl⟩
          · rw [if_neg (beq_f b12)] at h
            refine ⟨b12, ?_⟩
            refine ⟨b12, ?_⟩
            refine ⟨b12, ?_⟩
            refine ⟨b12, ?_⟩
            refine ⟨b12, ?_⟩
            refine ⟨b12, ?_⟩
            refine ⟨b12, ?_⟩
            refine ⟨rfl, T, ?_⟩
            obtain rfl := oi h
            exact ⟨rfl, T, T, rfl, rfl⟩
        · dsimp only at h
          left
          refine ⟨t14, ⟨cm_do.fun_ ht10, T⟩, ?_⟩
          obtain rfl := oi h
          exact ⟨rfl, T, rfl, rfl⟩
    · dsimp only at h
      left
      refine ⟨t15, ⟨cpu_told.fun_ ht5, T⟩, ?_⟩
      obtain rfl := oi h
      exact ⟨rfl, T, rfl, rfl⟩
def cpu_Step_1.c0 (a2 : (List Int)) (a3 : Int) (a4 : Int) (a5 : (List Int)) (a6 : Int) (a7 : Int) (a8 : Int) (a9 : Int) (a10 : Int) (a11 : Int) : Box := .ex false [.c (.ip 29 2), .row 16 (.int .u32) a2, .c (.sc (.int .u32 a3)), .c (.sc (.int .u32 a4)), .row 4 (.int .u64) a5, .c (.sc (.int .i64 a6)), .c (.sc (.int .i64 a7)), .c (.sc (.int .i64 a8)), .c (.sc (.int .i64 a9)), .c (.sc (.int .u32 a10)), .c (.sc (.int .i64 a11))] 62
def cpu_Step_1.f (a0 : Int) (a1 : Int) (a2 : (List Int)) (a3 : Int) (a4 : Int) (a5 : (List Int)) (a6 : Int) (a7 : Int) (a8 : Int) (a9 : Int) (a10 : Int) (a11 : Int) (a12 : Int) (a13 : Int) (a14 : (List Int)) (a15 : (List Int)) (a16 : Int) (a17 : Int) (a18 : (List Int)) (a19 : Int) (a20 : Int) (a21 : Int) (a22 : (List Int)) (a23 : Int) (a24 : Int) (a25 : (List Int)) : Option (TY1) :=
  some (a22, a23, a24, a25, (4 : Int), a0, a1)
def cpu_Step_1.R (r : TY1) : Tm := .tup []
def cpu_Step_1.B (a0 : Int) (a1 : Int) (a2 : (List Int)) (a3 : Int) (a4 : Int) (a5 : (List Int)) (a6 : Int) (a7 : Int) (a8 : Int) (a9 : Int) (a10 : Int) (a11 : Int) (a12 : Int) (a13 : Int) (a14 : (List Int)) (a15 : (List Int)) (a16 : Int) (a17 : Int) (a18 : (List Int)) (a19 : Int) (a20 : Int) (a21 : Int) (a22 : (List Int)) (a23 : Int) (a24 : Int) (a25 : (List Int)) (r : TY1) : List Box := [.ex false [.c (.ptr 1 ⟨0, 0, 0, 0⟩)] 59, .ex false [.c (.ip 29 2), .row 16 (.int .u32) a2, .c (.sc (.int .u32 a3)), .c (.sc (.int .u32 a4)), .row 4 (.int .u64) a5, .c (.sc (.int .i64 a6)), .c (.sc (.int .i64 a7)), .c (.sc (.int .i64 a8)), .c (.sc (.int .i64 a9)), .c (.sc (.int .u32 a10)), .c (.sc (.int .i64 a11))] 62, .ex false [.c (.os 3 0 0 1 (List.length a14) none), .c (.sc (.int .i64 a12)), .c (.sc (.int .i64 a13))] 33, .fix false (.int .u8) a14 5, .ex false [.row 16 (.int .u32) r.1, .c (.sc (.int .u32 r.2.1)), .c (.sc (.int .u32 r.2.2.1)), .row 4 (.int .u64) r.2.2.2.1] 34, .ex false [.c (.sc (.int .i64 r.2.2.2.2.1)), .c (.sc (.int .i64 r.2.2.2.2.2.1)), .c (.sc (.int .u32 r.2.2.2.2.2.2))] 36, .ex false [.row 16 (.int .u32) a22, .c (.sc (.int .u32 a23)), .c (.sc (.int .u32 a24)), .row 4 (.int .u64) a25] 34]
theorem cpu_Step_1.fun_ {a0 : Int} {a1 : Int} {a2 : (List Int)} {a3 : Int} {a4 : Int} {a5 : (List Int)} {a6 : Int} {a7 : Int} {a8 : Int} {a9 : Int} {a10 : Int} {a11 : Int} {a12 : Int} {a13 : Int} {a14 : (List Int)} {a15 : (List Int)} {a16 : Int} {a17 : Int} {a18 : (List Int)} {a19 : Int} {a20 : Int} {a21 : Int} {a22 : (List Int)} {a23 : Int} {a24 : Int} {a25 : (List Int)} {r : TY1} (h : cpu_Step_1.f a0 a1 a2 a3 a4 a5 a6 a7 a8 a9 a10 a11 a12 a13 a14 a15 a16 a17 a18 a19 a20 a21 a22 a23 a24 a25 = some r) : FunD cfg 15 [.one (.ptr 0 ⟨0, 0, 0, 0⟩), .one (.ptr 4 ⟨0, 0, 0, 0⟩), .one (.ptr 5 ⟨0, 0, 0, 0⟩), .one (.ptr 6 ⟨0, 0, 0, 0⟩)] [.ex false [.c (.ptr 1 ⟨0, 0, 0, 0⟩)] 59, .ex false [.c (.ip 29 2), .row 16 (.int .u32) a2, .c (.sc (.int .u32 a3)), .c (.sc (.int .u32 a4)), .row 4 (.int .u64) a5, .c (.sc (.int .i64 a6)), .c (.sc (.int .i64 a7)), .c (.sc (.int .i64 a8)), .c (.sc (.int .i64 a9)), .c (.sc (.int .u32 a10)), .c (.sc (.int .i64 a11))] 62, .ex false [.c (.os 3 0 0 1 (List.length a14) none), .c (.sc (.int .i64 a12)), .c (.sc (.int .i64 a13))] 33, .fix false (.int .u8) a14 5, .ex false [.row 16 (.int .u32) a15, .c (.sc (.int .u32 a16)), .c (.sc (.int .u32 a17)), .row 4 (.int .u64) a18] 34, .ex false [.c (.sc (.int .i64 a19)), .c (.sc (.int .i64 a20)), .c (.sc (.int .u32 a21))] 36, .ex false [.row 16 (.int .u32) a22, .c (.sc (.int .u32 a23)), .c (.sc (.int .u32 a24)), .row 4 (.int .u64) a25] 34] (some (.iface 64 (.agg #[.int .i64 a0, .int .u32 a1]))) (cpu_Step_1.B a0 a1 a2 a3 a4 a5 a6 a7 a8 a9 a10 a11 a12 a13 a14 a15 a16 a17 a18 a19 a20 a21 a22 a23 a24 a25 r) := by
  unfold cpu_Step_1.f at h
  refine funD_of_run cfg_ok (f := 15) (fn := Try.f15) (c2 := cpath (Try.f15.body.getD .skip) [1]) (i := 0) (o := opAt (cpath (Try.f15.body.getD .skip) [0]) 0) Try.func15 (by kernel_rfl) (by kernel_rfl) (d := 7) (by kernel_rfl) (by kernel_rfl) (by kernel_rfl) rfl (nt := 28) rfl (l := fin) (u := (some (.iface 64 (.agg #[.int .i64 a0, .int .u32 a1])))) (fun p hp => by cases hp; try rfl) (k := (.one false (.one true (.drP (nd [1, 3, 0] [(2, ⟨none, .no, true⟩), (4, ⟨none, .no, true⟩), (5, dN), (6, ⟨none, .no, true⟩), (7, dN)]) (om [1, 3, 0] [7] [0, 1, 2, 3, 4, 5, 6, 7] [[2, 6, 4, 5], [4, 2, 5, 6], [4, 6, 2, 5], [6, 2, 4, 5], [6, 4, 2, 5]]) ⟨([P0, .v (.one (.ptr 4 ⟨0, 0, 0, 0⟩)), .v (.one (.ptr 5 ⟨0, 0, 0, 0⟩)), .v (.one (.ptr 6 ⟨0, 0, 0, 0⟩)), A, .v (.one (.ptr 7 ⟨0, 0, 0, 0⟩)), A, .v (.one (.sc (.iface 64 (.agg #[.int .i64 a0, .int .u32 a1])))), A, vb false] ++ (rA 9 [.tup [.agg [.c (.sc (.int .i64 a0)), .c (.sc (.int .u32 a1))], .one (.sc (.bool true))], vb true, .v (.agg [.c (.sc (.int .i64 a0)), .c (.sc (.int .u32 a1))]), .v (.agg [.row 16 (.int .u32) a22, .c (.sc (.int .u32 a23)), .c (.sc (.int .u32 a24)), .row 4 (.int .u64) a25]), .v (.one (.ptr 7 ⟨0, 0, 0, 0⟩)), vi .i64 a0, .v (.one (.ptr 7 ⟨1, 0, 0, 0⟩)), vi .u32 a1, .v (.agg [.c (.sc (.int .i64 (4 : Int))), .c (.sc (.int .i64 a0)), .c (.sc (.int .u32 a1))])])), [.ex false [.c (.ptr 1 ⟨0, 0, 0, 0⟩)] 59, .ex false [.c (.ip 29 2), .row 16 (.int .u32) a2, .c (.sc (.int .u32 a3)), .c (.sc (.int .u32 a4)), .row 4 (.int .u64) a5, .c (.sc (.int .i64 a6)), .c (.sc (.int .i64 a7)), .c (.sc (.int .i64 a8)), .c (.sc (.int .i64 a9)), .c (.sc (.int .u32 a10)), .c (.sc (.int .i64 a11))] 62, .ex false [.c (.os 3 0 0 1 (List.length a14) none), .c (.sc (.int .i64 a12)), .c (.sc (.int .i64 a13))] 33, .fix false (.int .u8) a14 5, .ex false [.row 16 (.int .u32) a22, .c (.sc (.int .u32 a23)), .c (.sc (.int .u32 a24)), .row 4 (.int .u64) a25] 34, .ex false [.c (.sc (.int .i64 (4 : Int))), .c (.sc (.int .i64 a0)), .c (.sc (.int .u32 a1))] 36, .ex false [.row 16 (.int .u32) a22, .c (.sc (.int .u32 a23)), .c (.sc (.int .u32 a24)), .row 4 (.int .u64) a25] 34, .ex false [.c (.sc (.int .i64 a0)), .c (.sc (.int .u32 a1))] 64], 7⟩ (.adj [.drop 7] .nil))))) (to_goal (q := (U) ∧ (false = false ∧ (U) ∧ (true = true ∧ (U) ∧ (((U) ∧ (U) ∧ (U) ∧ (U) ∧ (U) ∧ (⟨([P0, .v (.one (.ptr 4 ⟨0, 0, 0, 0⟩)), .v (.one (.ptr 5 ⟨0, 0, 0, 0⟩)), .v (.one (.ptr 6 ⟨0, 0, 0, 0⟩)), A, .v (.one (.ptr 7 ⟨0, 0, 0, 0⟩)), A, .v (.one (.sc (.iface 64 (.agg #[.int .i64 a0, .int .u32 a1])))), A, vb false] ++ (rA 9 [.tup [.agg [.c (.sc (.int .i64 a0)), .c (.sc (.int .u32 a1))], .one (.sc (.bool true))], vb true, .v (.agg [.c (.sc (.int .i64 a0)), .c (.sc (.int .u32 a1))]), .v (.agg [.row 16 (.int .u32) a22, .c (.sc (.int .u32 a23)), .c (.sc (.int .u32 a24)), .row 4 (.int .u64) a25]), .v (.one (.ptr 7 ⟨0, 0, 0, 0⟩)), vi .i64 a0, .v (.one (.ptr 7 ⟨1, 0, 0, 0⟩)), vi .u32 a1, .v (.agg [.c (.sc (.int .i64 (4 : Int))), .c (.sc (.int .i64 a0)), .c (.sc (.int .u32 a1))])])), [.ex false [.c (.ptr 1 ⟨0, 0, 0, 0⟩)] 59, (cpu_Step_1.c0 a2 a3 a4 a5 a6 a7 a8 a9 a10 a11), .ex false [.c (.os 3 0 0 1 (List.length a14) none), .c (.sc (.int .i64 a12)), .c (.sc (.int .i64 a13))] 33, .fix false (.int .u8) a14 5, .ex false [.row 16 (.int .u32) a22, .c (.sc (.int .u32 a23)), .c (.sc (.int .u32 a24)), .row 4 (.int .u64) a25] 34, .ex false [.c (.sc (.int .i64 (4 : Int))), .c (.sc (.int .i64 a0)), .c (.sc (.int .u32 a1))] 36, .ex false [.row 16 (.int .u32) a22, .c (.sc (.int .u32 a23)), .c (.sc (.int .u32 a24)), .row 4 (.int .u64) a25] 34, .ex false [.c (.sc (.int .i64 a0)), .c (.sc (.int .u32 a1))] 64], 7⟩ : St) = ⟨([P0, .v (.one (.ptr 4 ⟨0, 0, 0, 0⟩)), .v (.one (.ptr 5 ⟨0, 0, 0, 0⟩)), .v (.one (.ptr 6 ⟨0, 0, 0, 0⟩)), A, .v (.one (.ptr 7 ⟨0, 0, 0, 0⟩)), A, .v (.one (.sc (.iface 64 (.agg #[.int .i64 a0, .int .u32 a1])))), A, vb false] ++ (rA 9 [.tup [.agg [.c (.sc (.int .i64 a0)), .c (.sc (.int .u32 a1))], .one (.sc (.bool true))], vb true, .v (.agg [.c (.sc (.int .i64 a0)), .c (.sc (.int .u32 a1))]), .v (.agg [.row 16 (.int .u32) a22, .c (.sc (.int .u32 a23)), .c (.sc (.int .u32 a24)), .row 4 (.int .u64) a25]), .v (.one (.ptr 7 ⟨0, 0, 0, 0⟩)), vi .i64 a0, .v (.one (.ptr 7 ⟨1, 0, 0, 0⟩)), vi .u32 a1, .v (.agg [.c (.sc (.int .i64 (4 : Int))), .c (.sc (.int .i64 a0)), .c (.sc (.int .u32 a1))])])), [.ex false [.c (.ptr 1 ⟨0, 0, 0, 0⟩)] 59, (cpu_Step_1.c0 a2 a3 a4 a5 a6 a7 a8 a9 a10 a11), .ex false [.c (.os 3 0 0 1 (List.length a14) none), .c (.sc (.int .i64 a12)), .c (.sc (.int .i64 a13))] 33, .fix false (.int .u8) a14 5, .ex false [.row 16 (.int .u32) a22, .c (.sc (.int .u32 a23)), .c (.sc (.int .u32 a24)), .row 4 (.int .u64) a25] 34, .ex false [.c (.sc (.int .i64 (4 : Int))), .c (.sc (.int .i64 a0)), .c (.sc (.int .u32 a1))] 36, .ex false [.row 16 (.int .u32) a22, .c (.sc (.int .u32 a23)), .c (.sc (.int .u32 a24)), .row 4 (.int .u64) a25] 34, .ex false [.c (.sc (.int .i64 a0)), .c (.sc (.int .u32 a1))] 64], 7⟩) ∧ (((U) ∧ (U) ∧ (U) ∧ (U) ∧ (U) ∧ U ∧ (⟨([P0, .v (.one (.ptr 4 ⟨0, 0, 0, 0⟩)), .v (.one (.ptr 5 ⟨0, 0, 0, 0⟩)), .v (.one (.ptr 6 ⟨0, 0, 0, 0⟩)), A, .v (.one (.ptr 7 ⟨0, 0, 0, 0⟩)), A, .v (.one (.sc (.iface 64 (.agg #[.int .i64 a0, .int .u32 a1])))), A, vb false] ++ (rA 9 [.tup [.agg [.c (.sc (.int .i64 a0)), .c (.sc (.int .u32 a1))], .one (.sc (.bool true))], vb true, .v (.agg [.c (.sc (.int .i64 a0)), .c (.sc (.int .u32 a1))]), .v (.agg [.row 16 (.int .u32) a22, .c (.sc (.int .u32 a23)), .c (.sc (.int .u32 a24)), .row 4 (.int .u64) a25]), .v (.one (.ptr 7 ⟨0, 0, 0, 0⟩)), vi .i64 a0, .v (.one (.ptr 7 ⟨1, 0, 0, 0⟩)), vi .u32 a1, .v (.agg [.c (.sc (.int .i64 (4 : Int))), .c (.sc (.int .i64 a0)), .c (.sc (.int .u32 a1))])])), [.ex false [.c (.ptr 1 ⟨0, 0, 0, 0⟩)] 59, (cpu_Step_1.c0 a2 a3 a4 a5 a6 a7 a8 a9 a10 a11), .ex false [.c (.os 3 0 0 1 (List.length a14) none), .c (.sc (.int .i64 a12)), .c (.sc (.int .i64 a13))] 33, .fix false (.int .u8) a14 5, .ex false [.row 16 (.int .u32) a22, .c (.sc (.int .u32 a23)), .c (.sc (.int .u32 a24)), .row 4 (.int .u64) a25] 34, .ex false [.c (.sc (.int .i64 (4 : Int))), .c (.sc (.int .i64 a0)), .c (.sc (.int .u32 a1))] 36, .ex false [.row 16 (.int .u32) a22, .c (.sc (.int .u32 a23)), .c (.sc (.int .u32 a24)), .row 4 (.int .u64) a25] 34, .ex false [.c (.sc (.int .i64 a0)), .c (.sc (.int .u32 a1))] 64], 7⟩ : St) = ⟨([P0, .v (.one (.ptr 4 ⟨0, 0, 0, 0⟩)), .v (.one (.ptr 5 ⟨0, 0, 0, 0⟩)), .v (.one (.ptr 6 ⟨0, 0, 0, 0⟩)), A, .v (.one (.ptr 7 ⟨0, 0, 0, 0⟩)), A, .v (.one (.sc (.iface 64 (.agg #[.int .i64 a0, .int .u32 a1])))), A, vb false] ++ (rA 9 [.tup [.agg [.c (.sc (.int .i64 a0)), .c (.sc (.int .u32 a1))], .one (.sc (.bool true))], vb true, .v (.agg [.c (.sc (.int .i64 a0)), .c (.sc (.int .u32 a1))]), .v (.agg [.row 16 (.int .u32) a22, .c (.sc (.int .u32 a23)), .c (.sc (.int .u32 a24)), .row 4 (.int .u64) a25]), .v (.one (.ptr 7 ⟨0, 0, 0, 0⟩)), vi .i64 a0, .v (.one (.ptr 7 ⟨1, 0, 0, 0⟩)), vi .u32 a1, .v (.agg [.c (.sc (.int .i64 (4 : Int))), .c (.sc (.int .i64 a0)), .c (.sc (.int .u32 a1))])])), [.ex false [.c (.ptr 1 ⟨0, 0, 0, 0⟩)] 59, (cpu_Step_1.c0 a2 a3 a4 a5 a6 a7 a8 a9 a10 a11), .ex false [.c (.os 3 0 0 1 (List.length a14) none), .c (.sc (.int .i64 a12)), .c (.sc (.int .i64 a13))] 33, .fix false (.int .u8) a14 5, .ex false [.row 16 (.int .u32) a22, .c (.sc (.int .u32 a23)), .c (.sc (.int .u32 a24)), .row 4 (.int .u64) a25] 34, .ex false [.c (.sc (.int .i64 (4 : Int))), .c (.sc (.int .i64 a0)), .c (.sc (.int .u32 a1))] 36, .ex false [.row 16 (.int .u32) a22, .c (.sc (.int .u32 a23)), .c (.sc (.int .u32 a24)), .row 4 (.int .u64) a25] 34, .ex false [.c (.sc (.int .i64 a0)), .c (.sc (.int .u32 a1))] 64], 7⟩) ∧ ((U) ∧ (U) ∧ (U) ∧ (U) ∧ (U) ∧ U ∧ (⟨([P0, .v (.one (.ptr 4 ⟨0, 0, 0, 0⟩)), .v (.one (.ptr 5 ⟨0, 0, 0, 0⟩)), .v (.one (.ptr 6 ⟨0, 0, 0, 0⟩)), A, .v (.one (.ptr 7 ⟨0, 0, 0, 0⟩)), A, .v (.one (.sc (.iface 64 (.agg #[.int .i64 a0, .int .u32 a1])))), A, vb false] ++ (rA 9 [.tup [.agg [.c (.sc (.int .i64 a0)), .c (.sc (.int .u32 a1))], .one (.sc (.bool true))], vb true, .v (.agg [.c (.sc (.int .i64 a0)), .c (.sc (.int .u32 a1))]), .v (.agg [.row 16 (.int .u32) a22, .c (.sc (.int .u32 a23)), .c (.sc (.int .u32 a24)), .row 4 (.int .u64) a25]), .v (.one (.ptr 7 ⟨0, 0, 0, 0⟩)), vi .i64 a0, .v (.one (.ptr 7 ⟨1, 0, 0, 0⟩)), vi .u32 a1, .v (.agg [.c (.sc (.int .i64 (4 : Int))), .c (.sc (.int .i64 a0)), .c (.sc (.int .u32 a1))])])), [.ex false [.c (.ptr 1 ⟨0, 0, 0, 0⟩)] 59, (cpu_Step_1.c0 a2 a3 a4 a5 a6 a7 a8 a9 a10 a11), .ex false [.c (.os 3 0 0 1 (List.length a14) none), .c (.sc (.int .i64 a12)), .c (.sc (.int .i64 a13))] 33, .fix false (.int .u8) a14 5, .ex false [.row 16 (.int .u32) a22, .c (.sc (.int .u32 a23)), .c (.sc (.int .u32 a24)), .row 4 (.int .u64) a25] 34, .ex false [.c (.sc (.int .i64 (4 : Int))), .c (.sc (.int .i64 a0)), .c (.sc (.int .u32 a1))] 36, .ex false [.row 16 (.int .u32) a22, .c (.sc (.int .u32 a23)), .c (.sc (.int .u32 a24)), .row 4 (.int .u64) a25] 34, .ex false [.c (.sc (.int .i64 a0)), .c (.sc (.int .u32 a1))] 64], 7⟩ : St) = ⟨([P0, .v (.one (.ptr 4 ⟨0, 0, 0, 0⟩)), .v (.one (.ptr 5 ⟨0, 0, 0, 0⟩)), .v (.one (.ptr 6 ⟨0, 0, 0, 0⟩)), A, .v (.one (.ptr 7 ⟨0, 0, 0, 0⟩)), A, .v (.one (.sc (.iface 64 (.agg #[.int .i64 a0, .int .u32 a1])))), A, vb false] ++ (rA 9 [.tup [.agg [.c (.sc (.int .i64 a0)), .c (.sc (.int .u32 a1))], .one (.sc (.bool true))], vb true, .v (.agg [.c (.sc (.int .i64 a0)), .c (.sc (.int .u32 a1))]), .v (.agg [.row 16 (.int .u32) a22, .c (.sc (.int .u32 a23)), .c (.sc (.int .u32 a24)), .row 4 (.int .u64) a25]), .v (.one (.ptr 7 ⟨0, 0, 0, 0⟩)), vi .i64 a0, .v (.one (.ptr 7 ⟨1, 0, 0, 0⟩)), vi .u32 a1, .v (.agg [.c (.sc (.int .i64 (4 : Int))), .c (.sc (.int .i64 a0)), .c (.sc (.int .u32 a1))])])), [.ex false [.c (.ptr 1 ⟨0, 0, 0, 0⟩)] 59, (cpu_Step_1.c0 a2 a3 a4 a5 a6 a7 a8 a9 a10 a11), .ex false [.c (.os 3 0 0 1 (List.length a14) none), .c (.sc (.int .i64 a12)), .c (.sc (.int .i64 a13))] 33, .fix false (.int .u8) a14 5, .ex false [.row 16 (.int .u32) a22, .c (.sc (.int .u32 a23)), .c (.sc (.int .u32 a24)), .row 4 (.int .u64) a25] 34, .ex false [.c (.sc (.int .i64 (4 : Int))), .c (.sc (.int .i64 a0)), .c (.sc (.int .u32 a1))] 36, .ex false [.row 16 (.int .u32) a22, .c (.sc (.int .u32 a23)), .c (.sc (.int .u32 a24)), .row 4 (.int .u64) a25] 34, .ex false [.c (.sc (.int .i64 a0)), .c (.sc (.int .u32 a1))] 64], 7⟩) ∧ ((U) ∧ (U) ∧ (U) ∧ (U) ∧ (U) ∧ U ∧ (⟨([P0, .v (.one (.ptr 4 ⟨0, 0, 0, 0⟩)), .v (.one (.ptr 5 ⟨0, 0, 0, 0⟩)), .v (.one (.ptr 6 ⟨0, 0, 0, 0⟩)), A, .v (.one (.ptr 7 ⟨0, 0, 0, 0⟩)), A, .v (.one (.sc (.iface 64 (.agg #[.int .i64 a0, .int .u32 a1])))), A, vb false] ++ (rA 9 [.tup [.agg [.c (.sc (.int .i64 a0)), .c (.sc (.int .u32 a1))], .one (.sc (.bool true))], vb true, .v (.agg [.c (.sc (.int .i64 a0)), .c (.sc (.int .u32 a1))]), .v (.agg [.row 16 (.int .u32) a22, .c (.sc (.int .u32 a23)), .c (.sc (.int .u32 a24)), .row 4 (.int .u64) a25]), .v (.one (.ptr 7 ⟨0, 0, 0, 0⟩)), vi .i64 a0, .v (.one (.ptr 7 ⟨1, 0, 0, 0⟩)), vi .u32 a1, .v (.agg [.c (.sc (.int .i64 (4 : Int))), .c (.sc (.int .i64 a0)), .c (.sc (.int .u32 a1))])])), [.ex false [.c (.ptr 1 ⟨0, 0, 0, 0⟩)] 59, (cpu_Step_1.c0 a2 a3 a4 a5 a6 a7 a8 a9 a10 a11), .ex false [.c (.os 3 0 0 1 (List.length a14) none), .c (.sc (.int .i64 a12)), .c (.sc (.int .i64 a13))] 33, .fix false (.int .u8) a14 5, .ex false [.row 16 (.int .u32) a22, .c (.sc (.int .u32 a23)), .c (.sc (.int .u32 a24)), .row 4 (.int .u64) a25] 34, .ex false [.c (.sc (.int .i64 (4 : Int))), .c (.sc (.int .i64 a0)), .c (.sc (.int .u32 a1))] 36, .ex false [.row 16 (.int .u32) a22, .c (.sc (.int .u32 a23)), .c (.sc (.int .u32 a24)), .row 4 (.int .u64) a25] 34, .ex false [.c (.sc (.int .i64 a0)), .c (.sc (.int .u32 a1))] 64], 7⟩ : St) = ⟨([P0, .v (.one (.ptr 4 ⟨0, 0, 0, 0⟩)), .v (.one (.ptr 5 ⟨0, 0, 0, 0⟩)), .v (.one (.ptr 6 ⟨0, 0, 0, 0⟩)), A, .v (.one (.ptr 7 ⟨0, 0, 0, 0⟩)), A, .v (.one (.sc (.iface 64 (.agg #[.int .i64 a0, .int .u32 a1])))), A, vb false] ++ (rA 9 [.tup [.agg [.c (.sc (.int .i64 a0)), .c (.sc (.int .u32 a1))], .one (.sc (.bool true))], vb true, .v (.agg [.c (.sc (.int .i64 a0)), .c (.sc (.int .u32 a1))]), .v (.agg [.row 16 (.int .u32) a22, .c (.sc (.int .u32 a23)), .c (.sc (.int .u32 a24)), .row 4 (.int .u64) a25]), .v (.one (.ptr 7 ⟨0, 0, 0, 0⟩)), vi .i64 a0, .v (.one (.ptr 7 ⟨1, 0, 0, 0⟩)), vi .u32 a1, .v (.agg [.c (.sc (.int .i64 (4 : Int))), .c (.sc (.int .i64 a0)), .c (.sc (.int .u32 a1))])])), [.ex false [.c (.ptr 1 ⟨0, 0, 0, 0⟩)] 59, (cpu_Step_1.c0 a2 a3 a4 a5 a6 a7 a8 a9 a10 a11), .ex false [.c (.os 3 0 0 1 (List.length a14) none), .c (.sc (.int .i64 a12)), .c (.sc (.int .i64 a13))] 33, .fix false (.int .u8) a14 5, .ex false [.row 16 (.int .u32) a22, .c (.sc (.int .u32 a23)), .c (.sc (.int .u32 a24)), .row 4 (.int .u64) a25] 34, .ex false [.c (.sc (.int .i64 (4 : Int))), .c (.sc (.int .i64 a0)), .c (.sc (.int .u32 a1))] 36, .ex false [.row 16 (.int .u32) a22, .c (.sc (.int .u32 a23)), .c (.sc (.int .u32 a24)), .row 4 (.int .u64) a25] 34, .ex false [.c (.sc (.int .i64 a0)), .c (.sc (.int .u32 a1))] 64], 7⟩) ∧ ((U) ∧ (U) ∧ (U) ∧ (U) ∧ (U) ∧ U ∧ (⟨([P0, .v (.one (.ptr 4 ⟨0, 0, 0, 0⟩)), .v (.one (.ptr 5 ⟨0, 0, 0, 0⟩)), .v (.one (.ptr 6 ⟨0, 0, 0, 0⟩)), A, .v (.one (.ptr 7 ⟨0, 0, 0, 0⟩)), A, .v (.one (.sc (.iface 64 (.agg #[.int .i64 a0, .int .u32 a1])))), A, vb false] ++ (rA 9 [.tup [.agg [.c (.sc (.int .i64 a0)), .c (.sc (.int .u32 a1))], .one (.sc (.bool true))], vb true, .v (.agg [.c (.sc (.int .i64 a0)), .c (.sc (.int .u32 a1))]), .v (.agg [.row 16 (.int .u32) a22, .c (.sc (.int .u32 a23)), .c (.sc (.int .u32 a24)), .row 4 (.int .u64) a25]), .v (.one (.ptr 7 ⟨0, 0, 0, 0⟩)), vi .i64 a0, .v (.one (.ptr 7 ⟨1, 0, 0, 0⟩)), vi .u32 a1, .v (.agg [.c (.sc (.int .i64 (4 : Int))), .c (.sc (.int .i64 a0)), .c (.sc (.int .u32 a1))])])), [.ex false [.c (.ptr 1 ⟨0, 0, 0, 0⟩)] 59, (cpu_Step_1.c0 a2 a3 a4 a5 a6 a7 a8 a9 a10 a11), .ex false [.c (.os 3 0 0 1 (List.length a14) none), .c (.sc (.int .i64 a12)), .c (.sc (.int .i64 a13))] 33, .fix false (.int .u8) a14 5, .ex false [.row 16 (.int .u32) a22, .c (.sc (.int .u32 a23)), .c (.sc (.int .u32 a24)), .row 4 (.int .u64) a25] 34, .ex false [.c (.sc (.int .i64 (4 : Int))), .c (.sc (.int .i64 a0)), .c (.sc (.int .u32 a1))] 36, .ex false [.row 16 (.int .u32) a22, .c (.sc (.int .u32 a23)), .c (.sc (.int .u32 a24)), .row 4 (.int .u64) a25] 34, .ex false [.c (.sc (.int .i64 a0)), .c (.sc (.int .u32 a1))] 64], 7⟩ : St) = ⟨([P0, .v (.one (.ptr 4 ⟨0, 0, 0, 0⟩)), .v (.one (.ptr 5 ⟨0, 0, 0, 0⟩)), .v (.one (.ptr 6 ⟨0, 0, 0, 0⟩)), A, .v (.one (.ptr 7 ⟨0, 0, 0, 0⟩)), A, .v (.one (.sc (.iface 64 (.agg #[.int .i64 a0, .int .u32 a1])))), A, vb false] ++ (rA 9 [.tup [.agg [.c (.sc (.int .i64 a0)), .c (.sc (.int .u32 a1))], .one (.sc (.bool true))], vb true, .v (.agg [.c (.sc (.int .i64 a0)), .c (.sc (.int .u32 a1))]), .v (.agg [.row 16 (.int .u32) a22, .c (.sc (.int .u32 a23)), .c (.sc (.int .u32 a24)), .row 4 (.int .u64) a25]), .v (.one (.ptr 7 ⟨0, 0, 0, 0⟩)), vi .i64 a0, .v (.one (.ptr 7 ⟨1, 0, 0, 0⟩)), vi .u32 a1, .v (.agg [.c (.sc (.int .i64 (4 : Int))), .c (.sc (.int .i64 a0)), .c (.sc (.int .u32 a1))])])), [.ex false [.c (.ptr 1 ⟨0, 0, 0, 0⟩)] 59, (cpu_Step_1.c0 a2 a3 a4 a5 a6 a7 a8 a9 a10 a11), .ex false [.c (.os 3 0 0 1 (List.length a14) none), .c (.sc (.int .i64 a12)), .c (.sc (.int .i64 a13))] 33, .fix false (.int .u8) a14 5, .ex false [.row 16 (.int .u32) a22, .c (.sc (.int .u32 a23)), .c (.sc (.int .u32 a24)), .row 4 (.int .u64) a25] 34, .ex false [.c (.sc (.int .i64 (4 : Int))), .c (.sc (.int .i64 a0)), .c (.sc (.int .u32 a1))] 36, .ex false [.row 16 (.int .u32) a22, .c (.sc (.int .u32 a23)), .c (.sc (.int .u32 a24)), .row 4 (.int .u64) a25] 34, .ex false [.c (.sc (.int .i64 a0)), .c (.sc (.int .u32 a1))] 64], 7⟩) ∧ ((U) ∧ (U) ∧ (U) ∧ (U) ∧ (U) ∧ U ∧ (⟨([P0, .v (.one (.ptr 4 ⟨0, 0, 0, 0⟩)), .v (.one (.ptr 5 ⟨0, 0, 0, 0⟩)), .v (.one (.ptr 6 ⟨0, 0, 0, 0⟩)), A, .v (.one (.ptr 7 ⟨0, 0, 0, 0⟩)), A, .v (.one (.sc (.iface 64 (.agg #[.int .i64 a0, .int .u32 a1])))), A, vb false] ++ (rA 9 [.tup [.agg [.c (.sc (.int .i64 a0)), .c (.sc (.int .u32 a1))], .one (.sc (.bool true))], vb true, .v (.agg [.c (.sc (.int .i64 a0)), .c (.sc (.int .u32 a1))]), .v (.agg [.row 16 (.int .u32) a22, .c (.sc (.int .u32 a23)), .c (.sc (.int .u32 a24)), .row 4 (.int .u64) a25]), .v (.one (.ptr 7 ⟨0, 0, 0, 0⟩)), vi .i64 a0, .v (.one (.ptr 7 ⟨1, 0, 0, 0⟩)), vi .u32 a1, .v (.agg [.c (.sc (.int .i64 (4 : Int))), .c (.sc (.int .i64 a0)), .c (.sc (.int .u32 a1))])])), [.ex false [.c (.ptr 1 ⟨0, 0, 0, 0⟩)] 59, (cpu_Step_1.c0 a2 a3 a4 a5 a6 a7 a8 a9 a10 a11), .ex false [.c (.os 3 0 0 1 (List.length a14) none), .c (.sc (.int .i64 a12)), .c (.sc (.int .i64 a13))] 33, .fix false (.int .u8) a14 5, .ex false [.row 16 (.int .u32) a22, .c (.sc (.int .u32 a23)), .c (.sc (.int .u32 a24)), .row 4 (.int .u64) a25] 34, .ex false [.c (.sc (.int .i64 (4 : Int))), .c (.sc (.int .i64 a0)), .c (.sc (.int .u32 a1))] 36, .ex false [.row 16 (.int .u32) a22, .c (.sc (.int .u32 a23)), .c (.sc (.int .u32 a24)), .row 4 (.int .u64) a25] 34, .ex false [.c (.sc (.int .i64 a0)), .c (.sc (.int .u32 a1))] 64], 7⟩ : St) = ⟨([P0, .v (.one (.ptr 4 ⟨0, 0, 0, 0⟩)), .v (.one (.ptr 5 ⟨0, 0, 0, 0⟩)), .v (.one (.ptr 6 ⟨0, 0, 0, 0⟩)), A, .v (.one (.ptr 7 ⟨0, 0, 0, 0⟩)), A, .v (.one (.sc (.iface 64 (.agg #[.int .i64 a0, .int .u32 a1])))), A, vb false] ++ (rA 9 [.tup [.agg [.c (.sc (.int .i64 a0)), .c (.sc (.int .u32 a1))], .one (.sc (.bool true))], vb true, .v (.agg [.c (.sc (.int .i64 a0)), .c (.sc (.int .u32 a1))]), .v (.agg [.row 16 (.int .u32) a22, .c (.sc (.int .u32 a23)), .c (.sc (.int .u32 a24)), .row 4 (.int .u64) a25]), .v (.one (.ptr 7 ⟨0, 0, 0, 0⟩)), vi .i64 a0, .v (.one (.ptr 7 ⟨1, 0, 0, 0⟩)), vi .u32 a1, .v (.agg [.c (.sc (.int .i64 (4 : Int))), .c (.sc (.int .i64 a0)), .c (.sc (.int .u32 a1))])])), [.ex false [.c (.ptr 1 ⟨0, 0, 0, 0⟩)] 59, (cpu_Step_1.c0 a2 a3 a4 a5 a6 a7 a8 a9 a10 a11), .ex false [.c (.os 3 0 0 1 (List.length a14) none), .c (.sc (.int .i64 a12)), .c (.sc (.int .i64 a13))] 33, .fix false (.int .u8) a14 5, .ex false [.row 16 (.int .u32) a22, .c (.sc (.int .u32 a23)), .c (.sc (.int .u32 a24)), .row 4 (.int .u64) a25] 34, .ex false [.c (.sc (.int .i64 (4 : Int))), .c (.sc (.int .i64 a0)), .c (.sc (.int .u32 a1))] 36, .ex false [.row 16 (.int .u32) a22, .c (.sc (.int .u32 a23)), .c (.sc (.int .u32 a24)), .row 4 (.int .u64) a25] 34, .ex false [.c (.sc (.int .i64 a0)), .c (.sc (.int .u32 a1))] 64], 7⟩) ∧ U) ∧ ((U) ∧ ((U) ∧ U) ∧ (.tup [] : Tm) = cpu_Step_1.R r ∧ ([.ex false [.c (.ptr 1 ⟨0, 0, 0, 0⟩)] 59, (cpu_Step_1.c0 a2 a3 a4 a5 a6 a7 a8 a9 a10 a11), .ex false [.c (.os 3 0 0 1 (List.length a14) none), .c (.sc (.int .i64 a12)), .c (.sc (.int .i64 a13))] 33, .fix false (.int .u8) a14 5, .ex false [.row 16 (.int .u32) a22, .c (.sc (.int .u32 a23)), .c (.sc (.int .u32 a24)), .row 4 (.int .u64) a25] 34, .ex false [.c (.sc (.int .i64 (4 : Int))), .c (.sc (.int .i64 a0)), .c (.sc (.int .u32 a1))] 36, .ex false [.row 16 (.int .u32) a22, .c (.sc (.int .u32 a23)), .c (.sc (.int .u32 a24)), .row 4 (.int .u64) a25] 34] : List Box) = cpu_Step_1.B a0 a1 a2 a3 a4 a5 a6 a7 a8 a9 a10 a11 a12 a13 a14 a15 a16 a17 a18 a19 a20 a21 a22 a23 a24 a25 r))))) (by kernel_rfl) ?_)
  refine ⟨T, rfl, T, rfl, T, ?_⟩
  refine ⟨⟨T, T, T, T, T, rfl⟩, ⟨⟨T, T, T, T, T, T, rfl⟩, ⟨T, T, T, T, T, T, rfl⟩, ⟨T, T, T, T, T, T, rfl⟩, ⟨T, T, T, T, T, T, rfl⟩, ⟨T, T, T, T, T, T, rfl⟩, T⟩, ?_⟩
  obtain rfl := oi h
  exact ⟨T, ⟨T, T⟩, rfl, rfl⟩
def cpu_Step_1_v1.f (a0 : (List Int)) (a1 : Int) (a2 : Int) (a3 : (List Int)) (a4 : Int) (a5 : Int) (a6 : Int) (a7 : Int) (a8 : Int) (a9 : Int) (a10 : Int) (a11 : Int) (a12 : (List Int)) (a13 : (List Int)) (a14 : Int) (a15 : Int) (a16 : (List Int)) (a17 : Int) (a18 : Int) (a19 : Int) (a20 : (List Int)) (a21 : Int) (a22 : Int) (a23 : (List Int)) : Option (TY1) :=
  some (a0, a1, a2, a3, a9, (0 : Int), (0 : Int))
def cpu_Step_1_v1.R (r : TY1) : Tm := .tup []
def cpu_Step_1_v1.B (a0 : (List Int)) (a1 : Int) (a2 : Int) (a3 : (List Int)) (a4 : Int) (a5 : Int) (a6 : Int) (a7 : Int) (a8 : Int) (a9 : Int) (a10 : Int) (a11 : Int) (a12 : (List Int)) (a13 : (List Int)) (a14 : Int) (a15 : Int) (a16 : (List Int)) (a17 : Int) (a18 : Int) (a19 : Int) (a20 : (List Int)) (a21 : Int) (a22 : Int) (a23 : (List Int)) (r : TY1) : List Box := [.ex false [.c (.ptr 1 ⟨0, 0, 0, 0⟩)] 59, .ex false [.c (.ip 29 2), .row 16 (.int .u32) a0, .c (.sc (.int .u32 a1)), .c (.sc (.int .u32 a2)), .row 4 (.int .u64) a3, .c (.sc (.int .i64 a4)), .c (.sc (.int .i64 a5)), .c (.sc (.int .i64 a6)), .c (.sc (.int .i64 a7)), .c (.sc (.int .u32 a8)), .c (.sc (.int .i64 a9))] 62, .ex false [.c (.os 3 0 0 1 (List.length a12) none), .c (.sc (.int .i64 a10)), .c (.sc (.int .i64 a11))] 33, .fix false (.int .u8) a12 5, .ex false [.row 16 (.int .u32) r.1, .c (.sc (.int .u32 r.2.1)), .c (.sc (.int .u32 r.2.2.1)), .row 4 (.int .u64) r.2.2.2.1] 34, .ex false [.c (.sc (.int .i64 r.2.2.2.2.1)), .c (.sc (.int .i64 r.2.2.2.2.2.1)), .c (.sc (.int .u32 r.2.2.2.2.2.2))] 36, .ex false [.row 16 (.int .u32) a20, .c (.sc (.int .u32 a21)), .c (.sc (.int .u32 a22)), .row 4 (.int .u64) a23] 34]
theorem cpu_Step_1_v1.fun_ {a0 : (List Int)} {a1 : Int} {a2 : Int} {a3 : (List Int)} {a4 : Int} {a5 : Int} {a6 : Int} {a7 : Int} {a8 : Int} {a9 : Int} {a10 : Int} {a11 : Int} {a12 : (List Int)} {a13 : (List Int)} {a14 : Int} {a15 : Int} {a16 : (List Int)} {a17 : Int} {a18 : Int} {a19 : Int} {a20 : (List Int)} {a21 : Int} {a22 : Int} {a23 : (List Int)} {r : TY1} (h : cpu_Step_1_v1.f a0 a1 a2 a3 a4 a5 a6 a7 a8 a9 a10 a11 a12 a13 a14 a15 a16 a17 a18 a19 a20 a21 a22 a23 = some r) : FunD cfg 15 [.one (.ptr 0 ⟨0, 0, 0, 0⟩), .one (.ptr 4 ⟨0, 0, 0, 0⟩), .one (.ptr 5 ⟨0, 0, 0, 0⟩), .one (.ptr 6 ⟨0, 0, 0, 0⟩)] [.ex false [.c (.ptr 1 ⟨0, 0, 0, 0⟩)] 59, .ex false [.c (.ip 29 2), .row 16 (.int .u32) a0, .c (.sc (.int .u32 a1)), .c (.sc (.int .u32 a2)), .row 4 (.int .u64) a3, .c (.sc (.int .i64 a4)), .c (.sc (.int .i64 a5)), .c (.sc (.int .i64 a6)), .c (.sc (.int .i64 a7)), .c (.sc (.int .u32 a8)), .c (.sc (.int .i64 a9))] 62, .ex false [.c (.os 3 0 0 1 (List.length a12) none), .c (.sc (.int .i64 a10)), .c (.sc (.int .i64 a11))] 33, .fix false (.int .u8) a12 5, .ex false [.row 16 (.int .u32) a13, .c (.sc (.int .u32 a14)), .c (.sc (.int .u32 a15)), .row 4 (.int .u64) a16] 34, .ex false [.c (.sc (.int .i64 a17)), .c (.sc (.int .i64 a18)), .c (.sc (.int .u32 a19))] 36, .ex false [.row 16 (.int .u32) a20, .c (.sc (.int .u32 a21)), .c (.sc (.int .u32 a22)), .row 4 (.int .u64) a23] 34] none (cpu_Step_1_v1.B a0 a1 a2 a3 a4 a5 a6 a7 a8 a9 a10 a11 a12 a13 a14 a15 a16 a17 a18 a19 a20 a21 a22 a23 r) := by
  unfold cpu_Step_1_v1.f at h
  refine funD_of_run cfg_ok (f := 15) (fn := Try.f15) (c2 := cpath (Try.f15.body.getD .skip) [1]) (i := 0) (o := opAt (cpath (Try.f15.body.getD .skip) [0]) 0) Try.func15 (by kernel_rfl) (by kernel_rfl) (d := 7) (by kernel_rfl) (by kernel_rfl) (by kernel_rfl) rfl (nt := 28) rfl (l := fin) (u := none) (fun p hp => by cases hp; try rfl) (k := (.one true (.dr (nr 0 11 []) (.adj [] .nil)))) (to_goal (q := (U) ∧ (true = true ∧ (U) ∧ (U) ∧ (U) ∧ (U) ∧ (U) ∧ (U) ∧ ((U) ∧ (U) ∧ (.tup [] : Tm) = cpu_Step_1_v1.R r ∧ ([.ex false [.c (.ptr 1 ⟨0, 0, 0, 0⟩)] 59, .ex false [.c (.ip 29 2), .row 16 (.int .u32) a0, .c (.sc (.int .u32 a1)), .c (.sc (.int .u32 a2)), .row 4 (.int .u64) a3, .c (.sc (.int .i64 a4)), .c (.sc (.int .i64 a5)), .c (.sc (.int .i64 a6)), .c (.sc (.int .i64 a7)), .c (.sc (.int .u32 a8)), .c (.sc (.int .i64 a9))] 62, .ex false [.c (.os 3 0 0 1 (List.length a12) none), .c (.sc (.int .i64 a10)), .c (.sc (.int .i64 a11))] 33, .fix false (.int .u8) a12 5, .ex false [.row 16 (.int .u32) a0, .c (.sc (.int .u32 a1)), .c (.sc (.int .u32 a2)), .row 4 (.int .u64) a3] 34, .ex false [.c (.sc (.int .i64 a9)), .c (.sc (.int .i64 (0 : Int))), .c (.sc (.int .u32 (0 : Int)))] 36, .ex false [.row 16 (.int .u32) a20, .c (.sc (.int .u32 a21)), .c (.sc (.int .u32 a22)), .row 4 (.int .u64) a23] 34] : List Box) = cpu_Step_1_v1.B a0 a1 a2 a3 a4 a5 a6 a7 a8 a9 a10 a11 a12 a13 a14 a15 a16 a17 a18 a19 a20 a21 a22 a23 r))) (by kernel_rfl) ?_)
  refine ⟨T, rfl, ?_⟩
  refine ⟨T, T, T, T, T, T, ?_⟩
  obtain rfl := oi h
  exact ⟨T, T, rfl, rfl⟩
def cpu_Step.c0 (a0 : (List Int)) (a1 : Int) (a2 : Int) (a3 : (List Int)) : Box := .ex false [.c (.ip 29 1), .row 16 (.int .u32) a0, .c (.sc (.int .u32 a1)), .c (.sc (.int .u32 a2)), .row 4 (.int .u64) a3, .c (.sc (.int .i64 (0 : Int))), .c (.sc (.int .i64 (0 : Int))), .c (.sc (.int .i64 (0 : Int))), .c (.sc (.int .i64 (0 : Int))), .c (.sc (.int .u32 a1)), .c (.sc (.int .i64 (0 : Int)))] 62
def cpu_Step.f (a0 : (List Int)) (a1 : Int) (a2 : Int) (a3 : (List Int)) (a4 : Int) (a5 : Int) (a6 : (List Int)) : Option (TY2) :=
  (regs_Check.f a0 a1 a2 a3).bind fun t1 =>
  if ¬ (t1 = none) then
    some (a0, a1, a2, a3, (4 : Int), (7 : Int), a1, a4, a5, a6)
  else
    (cm_run.f a0 a1 a2 a3 (0 : Int) (0 : Int) (0 : Int) (0 : Int) a1 (0 : Int) a4 a5 a6).bind fun t3 =>
    match t3 with
    | .inl t4 =>
      (cpu_Step_1.f t4.1 t4.2.1 a0 t4.2.2.1 a2 a3 t4.2.2.2.1 t4.2.2.2.2.1 t4.2.2.2.2.2.1 t4.2.2.2.2.2.2.1 a1 (0 : Int) t4.2.2.2.2.2.2.2.1 t4.2.2.2.2.2.2.2.2.1 t4.2.2.2.2.2.2.2.2.2 (List.replicate 16 (0 : Int)) (0 : Int) (0 : Int) (List.replicate 4 (0 : Int)) (0 : Int) (0 : Int) (0 : Int) a0 a1 a2 a3).bind fun t5 =>
      some (t5.1, t5.2.1, t5.2.2.1, t5.2.2.2.1, t5.2.2.2.2.1, t5.2.2.2.2.2.1, t5.2.2.2.2.2.2, t4.2.2.2.2.2.2.2.1, t4.2.2.2.2.2.2.2.2.1, t4.2.2.2.2.2.2.2.2.2)
    | .inr t6 =>
      (cpu_Step_1_v1.f t6.1 t6.2.1 t6.2.2.1 t6.2.2.2.1 t6.2.2.2.2.1 t6.2.2.2.2.2.1 t6.2.2.2.2.2.2.1 t6.2.2.2.2.2.2.2.1 a1 t6.2.2.2.2.2.2.2.2.1 t6.2.2.2.2.2.2.2.2.2.1 t6.2.2.2.2.2.2.2.2.2.2.1 t6.2.2.2.2.2.2.2.2.2.2.2 (List.replicate 16 (0 : Int)) (0 : Int) (0 : Int) (List.replicate 4 (0 : Int)) (0 : Int) (0 : Int) (0 : Int) a0 a1 a2 a3).bind fun t7 =>
      some (t7.1, t7.2.1, t7.2.2.1, t7.2.2.2.1, t7.2.2.2.2.1, t7.2.2.2.2.2.1, t7.2.2.2.2.2.2, t6.2.2.2.2.2.2.2.2.2.1, t6.2.2.2.2.2.2.2.2.2.2.1, t6.2.2.2.2.2.2.2.2.2.2.2)
def cpu_Step.R (r : TY2) : Tm := .tup [.agg [.row 16 (.int .u32) r.1, .c (.sc (.int .u32 r.2.1)), .c (.sc (.int .u32 r.2.2.1)), .row 4 (.int .u64) r.2.2.2.1], .agg [.c (.sc (.int .i64 r.2.2.2.2.1)), .c (.sc (.int .i64 r.2.2.2.2.2.1)), .c (.sc (.int .u32 r.2.2.2.2.2.2.1))]]
def cpu_Step.B (a0 : (List Int)) (a1 : Int) (a2 : Int) (a3 : (List Int)) (a4 : Int) (a5 : Int) (a6 : (List Int)) (r : TY2) : List Box := [.ex false [.c (.os 1 0 0 1 (List.length r.2.2.2.2.2.2.2.2.2) none), .c (.sc (.int .i64 r.2.2.2.2.2.2.2.1)), .c (.sc (.int .i64 r.2.2.2.2.2.2.2.2.1))] 33, .fix false (.int .u8) r.2.2.2.2.2.2.2.2.2 5]
theorem cpu_Step.fun_ {a0 : (List Int)} {a1 : Int} {a2 : Int} {a3 : (List Int)} {a4 : Int} {a5 : Int} {a6 : (List Int)} {r : TY2} (h : cpu_Step.f a0 a1 a2 a3 a4 a5 a6 = some r) : Fun cfg 7 [.one (.ip 29 0), .agg [.row 16 (.int .u32) a0, .c (.sc (.int .u32 a1)), .c (.sc (.int .u32 a2)), .row 4 (.int .u64) a3]] (kB1 a6 a4 a5) (cpu_Step.R r) (cpu_Step.B a0 a1 a2 a3 a4 a5 a6 r) := by
  unfold cpu_Step.f at h
  refine funS_of_run cfg_ok (f := 7) (fn := Try.f7) (L := [(cpath (Try.f7.body.getD .skip) [0]), (cpath (Try.f7.body.getD .skip) [1, 0]), (cpath (Try.f7.body.getD .skip) [1, 1, 0])]) (i3 := 4) (i4 := 5) (o1 := (opAt (cpath (Try.f7.body.getD .skip) [1, 1, 1, 0]) 0)) (o2 := (opAt (cpath (Try.f7.body.getD .skip) [1, 1, 1, 0]) 1)) (o3 := (opAt (cpath (Try.f7.body.getD .skip) [1, 1, 1, 1, 0]) 0)) (o4 := (opAt (cpath (Try.f7.body.getD .skip) [1, 1, 1, 1, 0]) 1)) Try.func7 (by kernel_rfl) (by kernel_rfl) (rs := [.cell 4 34, .cell 5 36]) rfl (nt := 27) rfl (l := fin) (by kernel_rfl) (by kernel_rfl) (by kernel_rfl) (by kernel_rfl) (k := (oF 2 (.call true [] ((Option Int)) regs_Check.R (fun t1 => (oF 2 (.br (.drP [(1, dN), (0, dN), (2, ⟨none, .no, true⟩), (3, dN), (4, ⟨none, .no, true⟩), (5, dN)] [([1, 0, 4, 2, 3, 5], [0, 1, 2, 3, 4])] ⟨([.v (.one (.ip 29 0)), .v (.agg [.row 16 (.int .u32) a0, .c (.sc (.int .u32 a1)), .c (.sc (.int .u32 a2)), .row 4 (.int .u64) a3]), A, .v (.one (.ptr 2 ⟨0, 0, 0, 0⟩)), .v (.one (.ptr 3 ⟨0, 0, 0, 0⟩)), .v (.one (.ptr 4 ⟨0, 0, 0, 0⟩)), A, .v (.one (.ip 29 0)), vb false, vb false, .v (.agg [.row 16 (.int .u32) a0, .c (.sc (.int .u32 a1)), .c (.sc (.int .u32 a2)), .row 4 (.int .u64) a3]), .v (.one (.err t1)), vb (!(Option.isNone t1)), vb (!(Option.isNone t1)), .v (.agg [.row 16 (.int .u32) a0, .c (.sc (.int .u32 a1)), .c (.sc (.int .u32 a2)), .row 4 (.int .u64) a3]), .v (.one (.ptr 2 ⟨16, 0, 0, 0⟩)), vi .u32 a1, .v (.agg [.c (.sc (.int .i64 (4 : Int))), .c (.sc (.int .i64 (7 : Int))), .c (.sc (.int .u32 a1))])] ++ (rA 9 [])), (kB2 a6 a4 a5 a0 a1 a2 a3), 2⟩ (.adj [] (.adj [.drop 2] .nil))) (.orx (.callX true [] [5, 0, 1] (TY4) (fun t4 => (.iface 64 (.agg #[.int .i64 t4.1, .int .u32 t4.2.1]))) (fun t4 => (cm_run.B a0 a1 a2 a3 (0 : Int) (0 : Int) (0 : Int) (0 : Int) a1 (0 : Int) a4 a5 a6 (.inl t4))) (fun t4 => (.callR true [] [6, 5, 0, 1, 3, 4, 2] (TY1) (fun t5 => .tup []) (fun t5 => (cpu_Step_1.B t4.1 t4.2.1 a0 (p2 t4) a2 a3 (p3 t4) (p4 t4) (p5 t4) (p6 t4) a1 (0 : Int) (p7 t4) (p8 t4) (z9 t4) (List.replicate 16 (0 : Int)) (0 : Int) (0 : Int) (List.replicate 4 (0 : Int)) (0 : Int) (0 : Int) (0 : Int) a0 a1 a2 a3 t5)) (fun t5 => (.adj [.drop 2] .nil))))) (.callR true [] [5, 0, 1] (TY3) (fun t6 => (cm_run.R (.inr t6))) (fun t6 => (cm_run.B a0 a1 a2 a3 (0 : Int) (0 : Int) (0 : Int) (0 : Int) a1 (0 : Int) a4 a5 a6 (.inr t6))) (fun t6 => (.callR true [] [6, 5, 0, 1, 3, 4, 2] (TY1) (fun t7 => .tup []) (fun t7 => (cpu_Step_1_v1.B t6.1 t6.2.1 (p2 t6) (p3 t6) (p4 t6) (p5 t6) (p6 t6) (p7 t6) a1 (p8 t6) (p9 t6) (p10 t6) (z11 t6) (List.replicate 16 (0 : Int)) (0 : Int) (0 : Int) (List.replicate 4 (0 : Int)) (0 : Int) (0 : Int) (0 : Int) a0 a1 a2 a3 t7)) (fun t7 => (.adj [.drop 2] .nil)))))))))))) (to_goal (q := (U) ∧ (false = false ∧ (U) ∧ (false = false ∧ (∃ t1 : (Option Int), (Fun cfg 14 [.agg [.row 16 (.int .u32) a0, .c (.sc (.int .u32 a1)), .c (.sc (.int .u32 a2)), .row 4 (.int .u64) a3]] [] (regs_Check.R t1) [] ∧ U) ∧ (false = false ∧ (U) ∧ (false = false ∧ (((!(Option.isNone t1)) = true → (((U) ∧ (U) ∧ (U) ∧ (U) ∧ (⟨([.v (.one (.ip 29 0)), .v (.agg [.row 16 (.int .u32) a0, .c (.sc (.int .u32 a1)), .c (.sc (.int .u32 a2)), .row 4 (.int .u64) a3]), A, .v (.one (.ptr 2 ⟨0, 0, 0, 0⟩)), .v (.one (.ptr 3 ⟨0, 0, 0, 0⟩)), .v (.one (.ptr 4 ⟨0, 0, 0, 0⟩)), A, .v (.one (.ip 29 0)), vb false, vb false, .v (.agg [.row 16 (.int .u32) a0, .c (.sc (.int .u32 a1)), .c (.sc (.int .u32 a2)), .row 4 (.int .u64) a3]), .v (.one (.err t1)), vb (!(Option.isNone t1)), vb (!(Option.isNone t1)), .v (.agg [.row 16 (.int .u32) a0, .c (.sc (.int .u32 a1)), .c (.sc (.int .u32 a2)), .row 4 (.int .u64) a3]), .v (.one (.ptr 2 ⟨16, 0, 0, 0⟩)), vi .u32 a1, .v (.agg [.c (.sc (.int .i64 (4 : Int))), .c (.sc (.int .i64 (7 : Int))), .c (.sc (.int .u32 a1))])] ++ (rA 9 [])), (kB2 a6 a4 a5 a0 a1 a2 a3), 2⟩ : St) = ⟨([.v (.one (.ip 29 0)), .v (.agg [.row 16 (.int .u32) a0, .c (.sc (.int .u32 a1)), .c (.sc (.int .u32 a2)), .row 4 (.int .u64) a3]), A, .v (.one (.ptr 2 ⟨0, 0, 0, 0⟩)), .v (.one (.ptr 3 ⟨0, 0, 0, 0⟩)), .v (.one (.ptr 4 ⟨0, 0, 0, 0⟩)), A, .v (.one (.ip 29 0)), vb false, vb false, .v (.agg [.row 16 (.int .u32) a0, .c (.sc (.int .u32 a1)), .c (.sc (.int .u32 a2)), .row 4 (.int .u64) a3]), .v (.one (.err t1)), vb (!(Option.isNone t1)), vb (!(Option.isNone t1)), .v (.agg [.row 16 (.int .u32) a0, .c (.sc (.int .u32 a1)), .c (.sc (.int .u32 a2)), .row 4 (.int .u64) a3]), .v (.one (.ptr 2 ⟨16, 0, 0, 0⟩)), vi .u32 a1, .v (.agg [.c (.sc (.int .i64 (4 : Int))), .c (.sc (.int .i64 (7 : Int))), .c (.sc (.int .u32 a1))])] ++ (rA 9 [])), (kB2 a6 a4 a5 a0 a1 a2 a3), 2⟩) ∧ (((U) ∧ (U) ∧ (U) ∧ (U) ∧ U ∧ (⟨([.v (.one (.ip 29 0)), .v (.agg [.row 16 (.int .u32) a0, .c (.sc (.int .u32 a1)), .c (.sc (.int .u32 a2)), .row 4 (.int .u64) a3]), A, .v (.one (.ptr 2 ⟨0, 0, 0, 0⟩)), .v (.one (.ptr 3 ⟨0, 0, 0, 0⟩)), .v (.one (.ptr 4 ⟨0, 0, 0, 0⟩)), A, .v (.one (.ip 29 0)), vb false, vb false, .v (.agg [.row 16 (.int .u32) a0, .c (.sc (.int .u32 a1)), .c (.sc (.int .u32 a2)), .row 4 (.int .u64) a3]), .v (.one (.err t1)), vb (!(Option.isNone t1)), vb (!(Option.isNone t1)), .v (.agg [.row 16 (.int .u32) a0, .c (.sc (.int .u32 a1)), .c (.sc (.int .u32 a2)), .row 4 (.int .u64) a3]), .v (.one (.ptr 2 ⟨16, 0, 0, 0⟩)), vi .u32 a1, .v (.agg [.c (.sc (.int .i64 (4 : Int))), .c (.sc (.int .i64 (7 : Int))), .c (.sc (.int .u32 a1))])] ++ (rA 9 [])), (kB2 a6 a4 a5 a0 a1 a2 a3), 2⟩ : St) = ⟨([.v (.one (.ip 29 0)), .v (.agg [.row 16 (.int .u32) a0, .c (.sc (.int .u32 a1)), .c (.sc (.int .u32 a2)), .row 4 (.int .u64) a3]), A, .v (.one (.ptr 2 ⟨0, 0, 0, 0⟩)), .v (.one (.ptr 3 ⟨0, 0, 0, 0⟩)), .v (.one (.ptr 4 ⟨0, 0, 0, 0⟩)), A, .v (.one (.ip 29 0)), vb false, vb false, .v (.agg [.row 16 (.int .u32) a0, .c (.sc (.int .u32 a1)), .c (.sc (.int .u32 a2)), .row 4 (.int .u64) a3]), .v (.one (.err t1)), vb (!(Option.isNone t1)), vb (!(Option.isNone t1)), .v (.agg [.row 16 (.int .u32) a0, .c (.sc (.int .u32 a1)), .c (.sc (.int .u32 a2)), .row 4 (.int .u64) a3]), .v (.one (.ptr 2 ⟨16, 0, 0, 0⟩)), vi .u32 a1, .v (.agg [.c (.sc (.int .i64 (4 : Int))), .c (.sc (.int .i64 (7 : Int))), .c (.sc (.int .u32 a1))])] ++ (rA 9 [])), (kB2 a6 a4 a5 a0 a1 a2 a3), 2⟩) ∧ U) ∧ (U ∧ (((U) ∧ (U) ∧ U) ∧ ((U) ∧ U) ∧ (.tup [.agg [.row 16 (.int .u32) a0, .c (.sc (.int .u32 a1)), .c (.sc (.int .u32 a2)), .row 4 (.int .u64) a3], .agg [.c (.sc (.int .i64 (4 : Int))), .c (.sc (.int .i64 (7 : Int))), .c (.sc (.int .u32 a1))]] : Tm) = cpu_Step.R r ∧ ((kB1 a6 a4 a5) : List Box) = cpu_Step.B a0 a1 a2 a3 a4 a5 a6 r)))) ∧ ((!(Option.isNone t1)) = false → (U) ∧ (U) ∧ (U) ∧ (true = true ∧ U ∧ true = true ∧ (U) ∧ ((∃ t4 : TY4, true = true ∧ (FunX cfg 16 [.one (.ptr 0 ⟨0, 0, 0, 0⟩)] [(cpu_Step.c0 a0 a1 a2 a3), .ex false [.c (.os 2 0 0 1 (List.length a6) none), .c (.sc (.int .i64 a4)), .c (.sc (.int .i64 a5))] 33, .fix false (.int .u8) a6 5] (.iface 64 (.agg #[.int .i64 t4.1, .int .u32 t4.2.1])) (cm_run.B a0 a1 a2 a3 (0 : Int) (0 : Int) (0 : Int) (0 : Int) a1 (0 : Int) a4 a5 a6 (.inl t4)) ∧ U) ∧ (∃ t5 : TY1, true = true ∧ (FunD cfg 15 [.one (.ptr 0 ⟨0, 0, 0, 0⟩), .one (.ptr 4 ⟨0, 0, 0, 0⟩), .one (.ptr 5 ⟨0, 0, 0, 0⟩), .one (.ptr 6 ⟨0, 0, 0, 0⟩)] [.ex false [.c (.ptr 1 ⟨0, 0, 0, 0⟩)] 59, .ex false [.c (.ip 29 2), .row 16 (.int .u32) a0, .c (.sc (.int .u32 (p2 t4))), .c (.sc (.int .u32 a2)), .row 4 (.int .u64) a3, .c (.sc (.int .i64 (p3 t4))), .c (.sc (.int .i64 (p4 t4))), .c (.sc (.int .i64 (p5 t4))), .c (.sc (.int .i64 (p6 t4))), .c (.sc (.int .u32 a1)), .c (.sc (.int .i64 (0 : Int)))] 62, .ex false [.c (.os 3 0 0 1 (List.length (z9 t4)) none), .c (.sc (.int .i64 (p7 t4))), .c (.sc (.int .i64 (p8 t4)))] 33, .fix false (.int .u8) (z9 t4) 5, .ex false [.row 16 (.int .u32) (List.replicate 16 (0 : Int)), .c (.sc (.int .u32 (0 : Int))), .c (.sc (.int .u32 (0 : Int))), .row 4 (.int .u64) (List.replicate 4 (0 : Int))] 34, .ex false [.c (.sc (.int .i64 (0 : Int))), .c (.sc (.int .i64 (0 : Int))), .c (.sc (.int .u32 (0 : Int)))] 36, .ex false [.row 16 (.int .u32) a0, .c (.sc (.int .u32 a1)), .c (.sc (.int .u32 a2)), .row 4 (.int .u64) a3] 34] (some (.iface 64 (.agg #[.int .i64 t4.1, .int .u32 t4.2.1]))) (cpu_Step_1.B t4.1 t4.2.1 a0 (p2 t4) a2 a3 (p3 t4) (p4 t4) (p5 t4) (p6 t4) a1 (0 : Int) (p7 t4) (p8 t4) (z9 t4) (List.replicate 16 (0 : Int)) (0 : Int) (0 : Int) (List.replicate 4 (0 : Int)) (0 : Int) (0 : Int) (0 : Int) a0 a1 a2 a3 t5) ∧ U) ∧ (((U) ∧ (U) ∧ U) ∧ ((U) ∧ U) ∧ (.tup [.agg [.row 16 (.int .u32) t5.1, .c (.sc (.int .u32 t5.2.1)), .c (.sc (.int .u32 (p2 t5))), .row 4 (.int .u64) (p3 t5)], .agg [.c (.sc (.int .i64 (p4 t5))), .c (.sc (.int .i64 (p5 t5))), .c (.sc (.int .u32 (z6 t5)))]] : Tm) = cpu_Step.R r ∧ ([.ex false [.c (.os 1 0 0 1 (List.length (z9 t4)) none), .c (.sc (.int .i64 (p7 t4))), .c (.sc (.int .i64 (p8 t4)))] 33, .fix false (.int .u8) (z9 t4) 5] : List Box) = cpu_Step.B a0 a1 a2 a3 a4 a5 a6 r))) ∨ (∃ t6 : TY3, true = true ∧ (Fun cfg 16 [.one (.ptr 0 ⟨0, 0, 0, 0⟩)] [(cpu_Step.c0 a0 a1 a2 a3), .ex false [.c (.os 2 0 0 1 (List.length a6) none), .c (.sc (.int .i64 a4)), .c (.sc (.int .i64 a5))] 33, .fix false (.int .u8) a6 5] (cm_run.R (.inr t6)) (cm_run.B a0 a1 a2 a3 (0 : Int) (0 : Int) (0 : Int) (0 : Int) a1 (0 : Int) a4 a5 a6 (.inr t6)) ∧ U) ∧ (∃ t7 : TY1, true = true ∧ (FunD cfg 15 [.one (.ptr 0 ⟨0, 0, 0, 0⟩), .one (.ptr 4 ⟨0, 0, 0, 0⟩), .one (.ptr 5 ⟨0, 0, 0, 0⟩), .one (.ptr 6 ⟨0, 0, 0, 0⟩)] [.ex false [.c (.ptr 1 ⟨0, 0, 0, 0⟩)] 59, .ex false [.c (.ip 29 2), .row 16 (.int .u32) t6.1, .c (.sc (.int .u32 t6.2.1)), .c (.sc (.int .u32 (p2 t6))), .row 4 (.int .u64) (p3 t6), .c (.sc (.int .i64 (p4 t6))), .c (.sc (.int .i64 (p5 t6))), .c (.sc (.int .i64 (p6 t6))), .c (.sc (.int .i64 (p7 t6))), .c (.sc (.int .u32 a1)), .c (.sc (.int .i64 (p8 t6)))] 62, .ex false [.c (.os 3 0 0 1 (List.length (z11 t6)) none), .c (.sc (.int .i64 (p9 t6))), .c (.sc (.int .i64 (p10 t6)))] 33, .fix false (.int .u8) (z11 t6) 5, .ex false [.row 16 (.int .u32) (List.replicate 16 (0 : Int)), .c (.sc (.int .u32 (0 : Int))), .c (.sc (.int .u32 (0 : Int))), .row 4 (.int .u64) (List.replicate 4 (0 : Int))] 34, .ex false [.c (.sc (.int .i64 (0 : Int))), .c (.sc (.int .i64 (0 : Int))), .c (.sc (.int .u32 (0 : Int)))] 36, .ex false [.row 16 (.int .u32) a0, .c (.sc (.int .u32 a1)), .c (.sc (.int .u32 a2)), .row 4 (.int .u64) a3] 34] none (cpu_Step_1_v1.B t6.1 t6.2.1 (p2 t6) (p3 t6) (p4 t6) (p5 t6) (p6 t6) (p7 t6) a1 (p8 t6) (p9 t6) (p10 t6) (z11 t6) (List.replicate 16 (0 : Int)) (0 : Int) (0 : Int) (List.replicate 4 (0 : Int)) (0 : Int) (0 : Int) (0 : Int) a0 a1 a2 a3 t7) ∧ U) ∧ (((U) ∧ (U) ∧ U) ∧ ((U) ∧ U) ∧ (.tup [.agg [.row 16 (.int .u32) t7.1, .c (.sc (.int .u32 t7.2.1)), .c (.sc (.int .u32 (p2 t7))), .row 4 (.int .u64) (p3 t7)], .agg [.c (.sc (.int .i64 (p4 t7))), .c (.sc (.int .i64 (p5 t7))), .c (.sc (.int .u32 (z6 t7)))]] : Tm) = cpu_Step.R r ∧ ([.ex false [.c (.os 1 0 0 1 (List.length (z11 t6)) none), .c (.sc (.int .i64 (p9 t6))), .c (.sc (.int .i64 (p10 t6)))] 33, .fix false (.int .u8) (z11 t6) 5] : List Box) = cpu_Step.B a0 a1 a2 a3 a4 a5 a6 r))))))))))))) (by kernel_rfl) ?_)
  refine ⟨T, rfl, T, rfl, ?_⟩
  obtain ⟨t1, ht1, h⟩ := of_bind h
  refine ⟨t1, ⟨regs_Check.fun_ ht1, T⟩, ?_⟩
  refine ⟨rfl, T, rfl, ?_⟩
  refine ⟨fun b2 => ?_, fun b2 => ?_⟩
  · rw [if_pos (none_f (not_t b2))] at h
    refine ⟨⟨T, T, T, T, rfl⟩, ⟨⟨T, T, T, T, T, rfl⟩, T⟩, ?_⟩
    refine tI ?_
    obtain rfl := oi h
    exact ⟨⟨T, T, T⟩, ⟨T, T⟩, rfl, rfl⟩
  · rw [if_neg (not_not_intro (none_t (not_f b2)))] at h
    refine ⟨T, T, T, ?_⟩
    refine ⟨rfl, T, rfl, T, ?_⟩
    obtain ⟨t3, ht3, h⟩ := of_bind h
    rcases t3 with t4 | t6
    · dsimp only at h
      left
      refine ⟨t4, rfl, ⟨cm_run.fun_ ht3, T⟩, ?_⟩
      obtain ⟨t5, ht5, h⟩ := of_bind h
      refine ⟨t5, rfl, ⟨cpu_Step_1.fun_ ht5, T⟩, ?_⟩
      obtain rfl := oi h
      exact ⟨⟨T, T, T⟩, ⟨T, T⟩, rfl, rfl⟩
    · dsimp only at h
      right
      refine ⟨t6, rfl, ⟨cm_run.fun_ ht3, T⟩, ?_⟩
      obtain ⟨t7, ht7, h⟩ := of_bind h
      refine ⟨t7, rfl, ⟨cpu_Step_1_v1.fun_ ht7, T⟩, ?_⟩
      obtain rfl := oi h
      exact ⟨⟨T, T, T⟩, ⟨T, T⟩, rfl, rfl⟩
def halterref01_Load.l0 (a0 : (List Int)) : Nat → Int → Int → Option Int
  | 0, _, _ => none
  | n + 1, x4, x5 =>
    if x5 ≥ (0 : Int) then
      if 0 ≤ x5 ∧ x5 < (((List.length a0) : Nat) : Int) then
        halterref01_Load.l0 a0 n (IntKind.wrap .i64 ((IntKind.wrap .i64 ((256 : Int) * x4)) + (IntKind.wrap .i64 ((List.getD a0 (Int.toNat x5) (0 : Int)))))) (IntKind.wrap .i64 (x5 - (1 : Int)))
      else none
    else
      some x4
def halterref01_Load.l0_S (a0 : (List Int)) (x4 : Int) (x5 : Int) : St := ⟨([.v (.one (.fs (.int .u8) a0 false)), A, A, A, vi .i64 x4, vi .i64 x5] ++ (rA 30 [])), [], 0⟩
def halterref01_Load.l0_Q (a0 : (List Int)) (t : Int) : Exit → St → Prop := fun e s => e = (.exit 0) ∧ s = ⟨([A, A, A, A, vi .i64 t] ++ (rA 31 [])), [], 0⟩
theorem halterref01_Load.l0_ok (a0 : (List Int)) : ∀ (n : Nat) (x4 : Int) (x5 : Int) (r : Int), halterref01_Load.l0 a0 n x4 x5 = some r → TripN cfg (cpath (Try.f8.body.getD .skip) [1, 1, 1, 0, 1, 0, 0]) n (halterref01_Load.l0_S a0 x4 x5) (halterref01_Load.l0_Q a0 r) := by
  intro n
  induction n with
  | zero => intro x4 x5 r h; cases h
  | succ n ih =>
    intro x4 x5 r h
    rw [halterref01_Load.l0] at h
    refine TripN.of_run cfg_ok (k := (.br (aE 4 (.adj [.keep [0, 4, 5], .drop 0] .nil)) (.adj [.keep [4], .drop 0] .nil))) (to_goal (q := (U) ∧ (((decide (x5 ≥ (0 : Int))) = true → (U ∧ (U ∧ (U ∧ (U) ∧ (0 ≤ x5 ∧ x5 < (((List.length a0) : Nat) : Int)) ∧ (U) ∧ (U) ∧ (U) ∧ (U ∧ (U) ∧ (((U) ∧ (U) ∧ U) ∧ TripN cfg (cpath (Try.f8.body.getD .skip) [1, 1, 1, 0, 1, 0, 0]) n (halterref01_Load.l0_S a0 (IntKind.wrap .i64 ((IntKind.wrap .i64 ((256 : Int) * x4)) + (IntKind.wrap .i64 ((List.getD a0 (Int.toNat x5) (0 : Int)))))) (IntKind.wrap .i64 (x5 - (1 : Int)))) (halterref01_Load.l0_Q a0 r))))))) ∧ ((decide (x5 ≥ (0 : Int))) = false → (((U) ∧ (U) ∧ U) ∧ halterref01_Load.l0_Q a0 r (.exit 0) ⟨([A, A, A, A, vi .i64 x4] ++ (rA 31 [])), [], 0⟩)))) (by kernel_rfl) ?_)
    refine tI ?_
    refine ⟨fun b10 => ?_, fun b10 => ?_⟩
    · rw [if_pos (dT_ b10)] at h
      refine ⟨T, T, T, T, ?_⟩
      obtain ⟨g11, h⟩ := of_guard h
      refine ⟨g11, ?_⟩
      refine ⟨T, T, T, T, T, ?_⟩
      exact ⟨⟨T, T, T⟩, ih (IntKind.wrap .i64 ((IntKind.wrap .i64 ((256 : Int) * x4)) + (IntKind.wrap .i64 ((List.getD a0 (Int.toNat x5) (0 : Int)))))) (IntKind.wrap .i64 (x5 - (1 : Int))) r h⟩
    · rw [if_neg (dF_ b10)] at h
      obtain rfl := oi h
      exact ⟨⟨T, T, T⟩, rfl, rfl⟩
def halterref01_Load.l1 (a0 : (List Int)) : Nat → Int → Int → Option Int
  | 0, _, _ => none
  | n + 1, x14, x15 =>
    if x15 ≥ (0 : Int) then
      if 0 ≤ x15 ∧ x15 < (((List.length a0) : Nat) : Int) then
        halterref01_Load.l1 a0 n (IntKind.wrap .i64 ((IntKind.wrap .i64 ((256 : Int) * x14)) + (IntKind.wrap .i64 ((List.getD a0 (Int.toNat x15) (0 : Int)))))) (IntKind.wrap .i64 (x15 - (1 : Int)))
      else none
    else
      some x14
def halterref01_Load.l1_S (a0 : (List Int)) (x14 : Int) (x15 : Int) : St := ⟨([.v (.one (.fs (.int .u8) a0 false)), A, A, A, vi .i64 x14, vi .i64 x15] ++ (rA 30 [])), [], 0⟩
def halterref01_Load.l1_Q (a0 : (List Int)) (t : Int) : Exit → St → Prop := fun e s => e = (.exit 0) ∧ s = ⟨([A, A, A, A, vi .i64 t] ++ (rA 31 [])), [], 0⟩
theorem halterref01_Load.l1_ok (a0 : (List Int)) : ∀ (n : Nat) (x14 : Int) (x15 : Int) (r : Int), halterref01_Load.l1 a0 n x14 x15 = some r → TripN cfg (cpath (Try.f8.body.getD .skip) [1, 1, 1, 0, 1, 0, 0]) n (halterref01_Load.l1_S a0 x14 x15) (halterref01_Load.l1_Q a0 r) := by
  intro n
  induction n with
  | zero => intro x14 x15 r h; cases h
  | succ n ih =>
    intro x14 x15 r h
    rw [halterref01_Load.l1] at h
    refine TripN.of_run cfg_ok (k := (.br (aE 4 (.adj [.keep [0, 4, 5], .drop 0] .nil)) (.adj [.keep [4], .drop 0] .nil))) (to_goal (q := (U) ∧ (((decide (x15 ≥ (0 : Int))) = true → (U ∧ (U ∧ (U ∧ (U) ∧ (0 ≤ x15 ∧ x15 < (((List.length a0) : Nat) : Int)) ∧ (U) ∧ (U) ∧ (U) ∧ (U ∧ (U) ∧ (((U) ∧ (U) ∧ U) ∧ TripN cfg (cpath (Try.f8.body.getD .skip) [1, 1, 1, 0, 1, 0, 0]) n (halterref01_Load.l1_S a0 (IntKind.wrap .i64 ((IntKind.wrap .i64 ((256 : Int) * x14)) + (IntKind.wrap .i64 ((List.getD a0 (Int.toNat x15) (0 : Int)))))) (IntKind.wrap .i64 (x15 - (1 : Int)))) (halterref01_Load.l1_Q a0 r))))))) ∧ ((decide (x15 ≥ (0 : Int))) = false → (((U) ∧ (U) ∧ U) ∧ halterref01_Load.l1_Q a0 r (.exit 0) ⟨([A, A, A, A, vi .i64 x14] ++ (rA 31 [])), [], 0⟩)))) (by kernel_rfl) ?_)
    refine tI ?_
    refine ⟨fun b20 => ?_, fun b20 => ?_⟩
    · rw [if_pos (dT_ b20)] at h
      refine ⟨T, T, T, T, ?_⟩
      obtain ⟨g21, h⟩ := of_guard h
      refine ⟨g21, ?_⟩
      refine ⟨T, T, T, T, T, ?_⟩
      exact ⟨⟨T, T, T⟩, ih (IntKind.wrap .i64 ((IntKind.wrap .i64 ((256 : Int) * x14)) + (IntKind.wrap .i64 ((List.getD a0 (Int.toNat x15) (0 : Int)))))) (IntKind.wrap .i64 (x15 - (1 : Int))) r h⟩
    · rw [if_neg (dF_ b20)] at h
      obtain rfl := oi h
      exact ⟨⟨T, T, T⟩, rfl, rfl⟩
def halterref01_Load.l2 (a0 : (List Int)) : Nat → Int → Int → Option Int
  | 0, _, _ => none
  | n + 1, x24, x25 =>
    if x25 ≥ (0 : Int) then
      if 0 ≤ x25 ∧ x25 < (((List.length a0) : Nat) : Int) then
        halterref01_Load.l2 a0 n (IntKind.wrap .i64 ((IntKind.wrap .i64 ((256 : Int) * x24)) + (IntKind.wrap .i64 ((List.getD a0 (Int.toNat x25) (0 : Int)))))) (IntKind.wrap .i64 (x25 - (1 : Int)))
      else none
    else
      some x24
def halterref01_Load.l2_S (a0 : (List Int)) (x24 : Int) (x25 : Int) : St := ⟨([.v (.one (.fs (.int .u8) a0 false)), A, A, A, vi .i64 x24, vi .i64 x25] ++ (rA 30 [])), [], 0⟩
def halterref01_Load.l2_Q (a0 : (List Int)) (t : Int) : Exit → St → Prop := fun e s => e = (.exit 0) ∧ s = ⟨([A, A, A, A, vi .i64 t] ++ (rA 31 [])), [], 0⟩
theorem halterref01_Load.l2_ok (a0 : (List Int)) : ∀ (n : Nat) (x24 : Int) (x25 : Int) (r : Int), halterref01_Load.l2 a0 n x24 x25 = some r → TripN cfg (cpath (Try.f8.body.getD .skip) [1, 1, 1, 0, 1, 0, 0]) n (halterref01_Load.l2_S a0 x24 x25) (halterref01_Load.l2_Q a0 r) := by
  intro n
  induction n with
  | zero => intro x24 x25 r h; cases h
  | succ n ih =>
    intro x24 x25 r h
    rw [halterref01_Load.l2] at h
    refine TripN.of_run cfg_ok (k := (.br (aE 4 (.adj [.keep [0, 4, 5], .drop 0] .nil)) (.adj [.keep [4], .drop 0] .nil))) (to_goal (q := (U) ∧ (((decide (x25 ≥ (0 : Int))) = true → (U ∧ (U ∧ (U ∧ (U) ∧ (0 ≤ x25 ∧ x25 < (((List.length a0) : Nat) : Int)) ∧ (U) ∧ (U) ∧ (U) ∧ (U ∧ (U) ∧ (((U) ∧ (U) ∧ U) ∧ TripN cfg (cpath (Try.f8.body.getD .skip) [1, 1, 1, 0, 1, 0, 0]) n (halterref01_Load.l2_S a0 (IntKind.wrap .i64 ((IntKind.wrap .i64 ((256 : Int) * x24)) + (IntKind.wrap .i64 ((List.getD a0 (Int.toNat x25) (0 : Int)))))) (IntKind.wrap .i64 (x25 - (1 : Int)))) (halterref01_Load.l2_Q a0 r))))))) ∧ ((decide (x25 ≥ (0 : Int))) = false → (((U) ∧ (U) ∧ U) ∧ halterref01_Load.l2_Q a0 r (.exit 0) ⟨([A, A, A, A, vi .i64 x24] ++ (rA 31 [])), [], 0⟩)))) (by kernel_rfl) ?_)
    refine tI ?_
    refine ⟨fun b30 => ?_, fun b30 => ?_⟩
    · rw [if_pos (dT_ b30)] at h
      refine ⟨T, T, T, T, ?_⟩
      obtain ⟨g31, h⟩ := of_guard h
      refine ⟨g31, ?_⟩
      refine ⟨T, T, T, T, T, ?_⟩
      exact ⟨⟨T, T, T⟩, ih (IntKind.wrap .i64 ((IntKind.wrap .i64 ((256 : Int) * x24)) + (IntKind.wrap .i64 ((List.getD a0 (Int.toNat x25) (0 : Int)))))) (IntKind.wrap .i64 (x25 - (1 : Int))) r h⟩
    · rw [if_neg (dF_ b30)] at h
      obtain rfl := oi h
      exact ⟨⟨T, T, T⟩, rfl, rfl⟩
def halterref01_Load.f (a0 : (List Int)) : Option (Int × Int) :=
  if ¬ (((List.length a0) : Nat) : Int) = (1 : Int) then
    if ¬ (((List.length a0) : Nat) : Int) = (2 : Int) then
      if ¬ (((List.length a0) : Nat) : Int) = (4 : Int) then
        some ((0 : Int), (22 : Int))
      else
        (halterref01_Load.l0 a0 FUEL (0 : Int) (IntKind.wrap .i64 ((((List.length a0) : Nat) : Int) - (1 : Int)))).bind fun t9 =>
        some ((IntKind.wrap .u32 (t9)), (0 : Int))
    else
      (halterref01_Load.l1 a0 FUEL (0 : Int) (IntKind.wrap .i64 ((((List.length a0) : Nat) : Int) - (1 : Int)))).bind fun t19 =>
      some ((IntKind.wrap .u32 (t19)), (0 : Int))
  else
    (halterref01_Load.l2 a0 FUEL (0 : Int) (IntKind.wrap .i64 ((((List.length a0) : Nat) : Int) - (1 : Int)))).bind fun t29 =>
    some ((IntKind.wrap .u32 (t29)), (0 : Int))
def halterref01_Load.R (r : Int × Int) : Tm := .tup [.one (.sc (.int .u32 r.1)), .one (.sc (.int .i64 r.2))]
theorem halterref01_Load.fun_ {a0 : (List Int)} {r : Int × Int} (h : halterref01_Load.f a0 = some r) : Fun cfg 8 [.one (.fs (.int .u8) a0 false)] [] (halterref01_Load.R r) [] := by
  unfold halterref01_Load.f at h
  refine fun_of_run cfg_ok (f := 8) (fn := Try.f8) Try.func8 rfl (by kernel_rfl) (rs := [.tmp 2, .tmp 3]) rfl (nt := 36) rfl (l := fin) (k := (.br (oT 3 (.br (oT 3 (.br (aE 3 .nil) (aE 4 (.adj [.keep [0, 4, 5]] (.sub (Int) (fun _ => (.exit 0)) (fun t9 => ⟨([A, A, A, A, vi .i64 t9] ++ (rA 31 [])), [], 0⟩) (fun t9 => (aE 3 .nil))))))) (oF 4 (aE 4 (.adj [.keep [0, 4, 5]] (.sub (Int) (fun _ => (.exit 0)) (fun t19 => ⟨([A, A, A, A, vi .i64 t19] ++ (rA 31 [])), [], 0⟩) (fun t19 => (aE 3 .nil)))))))) (oF 8 (aE 4 (.adj [.keep [0, 4, 5]] (.sub (Int) (fun _ => (.exit 0)) (fun t29 => ⟨([A, A, A, A, vi .i64 t29] ++ (rA 31 [])), [], 0⟩) (fun t29 => (aE 3 .nil)))))))) (to_goal (q := (U) ∧ (U) ∧ ((((((List.length a0) : Nat) : Int) != (1 : Int)) = true → (((((List.length a0) : Nat) : Int) != (1 : Int)) = true ∧ (U) ∧ (((((List.length a0) : Nat) : Int) != (1 : Int)) = true ∧ (U) ∧ (((((List.length a0) : Nat) : Int) != (1 : Int)) = true ∧ ((((((List.length a0) : Nat) : Int) != (2 : Int)) = true → (((((List.length a0) : Nat) : Int) != (2 : Int)) = true ∧ (U) ∧ (((((List.length a0) : Nat) : Int) != (2 : Int)) = true ∧ (U) ∧ (((((List.length a0) : Nat) : Int) != (2 : Int)) = true ∧ ((((((List.length a0) : Nat) : Int) != (4 : Int)) = true → (U ∧ (U ∧ ((U) ∧ (U) ∧ (.tup [.one (.sc (.int .u32 (0 : Int))), .one (.sc (.int .i64 (22 : Int)))] : Tm) = halterref01_Load.R r ∧ ([] : List Box) = [])))) ∧ (((((List.length a0) : Nat) : Int) != (4 : Int)) = false → (U ∧ (U ∧ (U ∧ (U) ∧ (U) ∧ (U ∧ (((U) ∧ U) ∧ (∃ t9 : Int, Trip cfg (.loop (cpath (Try.f8.body.getD .skip) [1, 1, 1, 0, 1, 0, 0])) ⟨([.v (.one (.fs (.int .u8) a0 false)), A, A, A, vi .i64 (0 : Int), vi .i64 (IntKind.wrap .i64 ((((List.length a0) : Nat) : Int) - (1 : Int)))] ++ (rA 30 [])), [], 0⟩ (fun e s => e = (.exit 0) ∧ s = ⟨([A, A, A, A, vi .i64 t9] ++ (rA 31 [])), [], 0⟩) ∧ (U ∧ (U) ∧ (U ∧ ((U) ∧ (U) ∧ (.tup [.one (.sc (.int .u32 (IntKind.wrap .u32 (t9)))), .one (.sc (.int .i64 (0 : Int)))] : Tm) = halterref01_Load.R r ∧ ([] : List Box) = []))))))))))))))) ∧ (((((List.length a0) : Nat) : Int) != (2 : Int)) = false → (((((List.length a0) : Nat) : Int) != (2 : Int)) = false ∧ (((((List.length a0) : Nat) : Int) != (2 : Int)) = false ∧ (((((List.length a0) : Nat) : Int) != (2 : Int)) = false ∧ (false = false ∧ (U ∧ (U ∧ (U ∧ (U) ∧ (U) ∧ (U ∧ (((U) ∧ U) ∧ (∃ t19 : Int, Trip cfg (.loop (cpath (Try.f8.body.getD .skip) [1, 1, 1, 0, 1, 0, 0])) ⟨([.v (.one (.fs (.int .u8) a0 false)), A, A, A, vi .i64 (0 : Int), vi .i64 (IntKind.wrap .i64 ((((List.length a0) : Nat) : Int) - (1 : Int)))] ++ (rA 30 [])), [], 0⟩ (fun e s => e = (.exit 0) ∧ s = ⟨([A, A, A, A, vi .i64 t19] ++ (rA 31 [])), [], 0⟩) ∧ (U ∧ (U) ∧ (U ∧ ((U) ∧ (U) ∧ (.tup [.one (.sc (.int .u32 (IntKind.wrap .u32 (t19)))), .one (.sc (.int .i64 (0 : Int)))] : Tm) = halterref01_Load.R r ∧ ([] : List Box) = []))))))))))))))))))) ∧ (((((List.length a0) : Nat) : Int) != (1 : Int)) = false → (((((List.length a0) : Nat) : Int) != (1 : Int)) = false ∧ (((((List.length a0) : Nat) : Int) != (1 : Int)) = false ∧ (((((List.length a0) : Nat) : Int) != (1 : Int)) = false ∧ (false = false ∧ (false = false ∧ (false = false ∧ (false = false ∧ (false = false ∧ (U ∧ (U ∧ (U ∧ (U) ∧ (U) ∧ (U ∧ (((U) ∧ U) ∧ (∃ t29 : Int, Trip cfg (.loop (cpath (Try.f8.body.getD .skip) [1, 1, 1, 0, 1, 0, 0])) ⟨([.v (.one (.fs (.int .u8) a0 false)), A, A, A, vi .i64 (0 : Int), vi .i64 (IntKind.wrap .i64 ((((List.length a0) : Nat) : Int) - (1 : Int)))] ++ (rA 30 [])), [], 0⟩ (fun e s => e = (.exit 0) ∧ s = ⟨([A, A, A, A, vi .i64 t29] ++ (rA 31 [])), [], 0⟩) ∧ (U ∧ (U) ∧ (U ∧ ((U) ∧ (U) ∧ (.tup [.one (.sc (.int .u32 (IntKind.wrap .u32 (t29)))), .one (.sc (.int .i64 (0 : Int)))] : Tm) = halterref01_Load.R r ∧ ([] : List Box) = [])))))))))))))))))))) (by kernel_rfl) ?_)
  refine ⟨T, T, ?_⟩
  refine ⟨fun b1 => ?_, fun b1 => ?_⟩
  · rw [if_pos (bne_t b1)] at h
    refine ⟨b1, ?_⟩
    refine tI ?_
    refine ⟨b1, ?_⟩
    refine tI ?_
    refine ⟨b1, ?_⟩
    refine ⟨fun b2 => ?_, fun b2 => ?_⟩
    · rw [if_pos (bne_t b2)] at h
      refine ⟨b2, ?_⟩
      refine tI ?_
      refine ⟨b2, ?_⟩
      refine tI ?_
      refine ⟨b2, ?_⟩
      refine ⟨fun b3 => ?_, fun b3 => ?_⟩
      · rw [if_pos (bne_t b3)] at h
        refine ⟨T, T, ?_⟩
        obtain rfl := oi h
        exact ⟨T, T, rfl, rfl⟩
      · rw [if_neg (not_not_intro (bne_f b3))] at h
        refine ⟨T, T, T, T, T, T, ?_⟩
        obtain ⟨t9, ht9, h⟩ := of_bind h
        refine ⟨⟨T, T⟩, t9, Trip.loop FUEL (halterref01_Load.l0_ok a0 FUEL (0 : Int) (IntKind.wrap .i64 ((((List.length a0) : Nat) : Int) - (1 : Int))) t9 ht9), ?_⟩
        refine ⟨T, T, T, ?_⟩
        obtain rfl := oi h
        exact ⟨T, T, rfl, rfl⟩
    · rw [if_neg (not_not_intro (bne_f b2))] at h
      refine ⟨b2, ?_⟩
      refine ⟨b2, ?_⟩
      refine ⟨b2, ?_⟩
      refine ⟨rfl, T, T, T, T, T, T, ?_⟩
      obtain ⟨t19, ht19, h⟩ := of_bind h
      refine ⟨⟨T, T⟩, t19, Trip.loop FUEL (halterref01_Load.l1_ok a0 FUEL (0 : Int) (IntKind.wrap .i64 ((((List.length a0) : Nat) : Int) - (1 : Int))) t19 ht19), ?_⟩
      refine ⟨T, T, T, ?_⟩
      obtain rfl := oi h
      exact ⟨T, T, rfl, rfl⟩
  · rw [if_neg (not_not_intro (bne_f b1))] at h
    refine ⟨b1, ?_⟩
    refine ⟨b1, ?_⟩
    refine ⟨b1, ?_⟩
    refine ⟨rfl, rfl, rfl, rfl, rfl, T, T, T, T, T, T, ?_⟩
    obtain ⟨t29, ht29, h⟩ := of_bind h
    refine ⟨⟨T, T⟩, t29, Trip.loop FUEL (halterref01_Load.l2_ok a0 FUEL (0 : Int) (IntKind.wrap .i64 ((((List.length a0) : Nat) : Int) - (1 : Int))) t29 ht29), ?_⟩
    refine ⟨T, T, T, ?_⟩
    obtain rfl := oi h
    exact ⟨T, T, rfl, rfl⟩
def halterref08_Decode.f (a0 : Int) : Option (Int × Int × Int × Int × Int) :=
  if (Int.tmod (IntKind.wrap .i64 (a0)) (65536 : Int)) ≥ (32768 : Int) then
    if (IntKind.wrap .i64 (Int.tdiv (IntKind.wrap .i64 (a0)) (16777216 : Int))) > (41 : Int) then
      some ((0 : Int), (0 : Int), (0 : Int), (0 : Int), (22 : Int))
    else
      some ((IntKind.wrap .i64 (Int.tdiv (IntKind.wrap .i64 (a0)) (16777216 : Int))), (Int.tmod (IntKind.wrap .i64 (Int.tdiv (IntKind.wrap .i64 (a0)) (1048576 : Int))) (16 : Int)), (Int.tmod (IntKind.wrap .i64 (Int.tdiv (IntKind.wrap .i64 (a0)) (65536 : Int))) (16 : Int)), (IntKind.wrap .i64 ((Int.tmod (IntKind.wrap .i64 (a0)) (65536 : Int)) - (65536 : Int))), (0 : Int))
  else
    if (IntKind.wrap .i64 (Int.tdiv (IntKind.wrap .i64 (a0)) (16777216 : Int))) > (41 : Int) then
      some ((0 : Int), (0 : Int), (0 : Int), (0 : Int), (22 : Int))
    else
      some ((IntKind.wrap .i64 (Int.tdiv (IntKind.wrap .i64 (a0)) (16777216 : Int))), (Int.tmod (IntKind.wrap .i64 (Int.tdiv (IntKind.wrap .i64 (a0)) (1048576 : Int))) (16 : Int)), (Int.tmod (IntKind.wrap .i64 (Int.tdiv (IntKind.wrap .i64 (a0)) (65536 : Int))) (16 : Int)), (Int.tmod (IntKind.wrap .i64 (a0)) (65536 : Int)), (0 : Int))
def halterref08_Decode.R (r : Int × Int × Int × Int × Int) : Tm := .tup [.agg [.c (.sc (.int .i64 r.1)), .c (.sc (.int .i64 r.2.1)), .c (.sc (.int .i64 r.2.2.1)), .c (.sc (.int .i64 r.2.2.2.1))], .one (.sc (.int .i64 r.2.2.2.2))]
theorem halterref08_Decode.fun_ {a0 : Int} {r : Int × Int × Int × Int × Int} (h : halterref08_Decode.f a0 = some r) : Fun cfg 9 [.one (.sc (.int .u32 a0))] [] (halterref08_Decode.R r) [] := by
  unfold halterref08_Decode.f at h
  refine fun_of_run cfg_ok (f := 9) (fn := Try.f9) Try.func9 rfl (by kernel_rfl) (rs := [.cell 2 42, .tmp 3]) rfl (nt := 31) rfl (l := fin) (k := (.br (.br (aE 2 (.adj [.drop 0] .nil)) (aE 3 (.adj [.drop 0] .nil))) (.br (aE 2 (.adj [.drop 0] .nil)) (aE 3 (.adj [.drop 0] .nil))))) (to_goal (q := (U) ∧ ((16777216 : Int) ≠ 0) ∧ ((1048576 : Int) ≠ 0) ∧ ((16 : Int) ≠ 0) ∧ ((65536 : Int) ≠ 0) ∧ ((16 : Int) ≠ 0) ∧ ((65536 : Int) ≠ 0) ∧ (U) ∧ (U) ∧ (U) ∧ (((decide ((Int.tmod (IntKind.wrap .i64 (a0)) (65536 : Int)) ≥ (32768 : Int))) = true → (U) ∧ (U) ∧ (U) ∧ (U) ∧ (U) ∧ (((decide ((IntKind.wrap .i64 (Int.tdiv (IntKind.wrap .i64 (a0)) (16777216 : Int))) > (41 : Int))) = true → (U ∧ (U) ∧ (U ∧ (((U) ∧ U) ∧ ((U) ∧ U) ∧ (.tup [.agg [.c (.sc (.int .i64 (0 : Int))), .c (.sc (.int .i64 (0 : Int))), .c (.sc (.int .i64 (0 : Int))), .c (.sc (.int .i64 (0 : Int)))], .one (.sc (.int .i64 (22 : Int)))] : Tm) = halterref08_Decode.R r ∧ ([] : List Box) = [])))) ∧ ((decide ((IntKind.wrap .i64 (Int.tdiv (IntKind.wrap .i64 (a0)) (16777216 : Int))) > (41 : Int))) = false → (U ∧ (U ∧ (U) ∧ (U) ∧ (U ∧ (((U) ∧ U) ∧ ((U) ∧ U) ∧ (.tup [.agg [.c (.sc (.int .i64 (IntKind.wrap .i64 (Int.tdiv (IntKind.wrap .i64 (a0)) (16777216 : Int))))), .c (.sc (.int .i64 (Int.tmod (IntKind.wrap .i64 (Int.tdiv (IntKind.wrap .i64 (a0)) (1048576 : Int))) (16 : Int)))), .c (.sc (.int .i64 (Int.tmod (IntKind.wrap .i64 (Int.tdiv (IntKind.wrap .i64 (a0)) (65536 : Int))) (16 : Int)))), .c (.sc (.int .i64 (IntKind.wrap .i64 ((Int.tmod (IntKind.wrap .i64 (a0)) (65536 : Int)) - (65536 : Int)))))], .one (.sc (.int .i64 (0 : Int)))] : Tm) = halterref08_Decode.R r ∧ ([] : List Box) = []))))))) ∧ ((decide ((Int.tmod (IntKind.wrap .i64 (a0)) (65536 : Int)) ≥ (32768 : Int))) = false → (U) ∧ (U) ∧ (((decide ((IntKind.wrap .i64 (Int.tdiv (IntKind.wrap .i64 (a0)) (16777216 : Int))) > (41 : Int))) = true → (U ∧ (U) ∧ (U ∧ (((U) ∧ U) ∧ ((U) ∧ U) ∧ (.tup [.agg [.c (.sc (.int .i64 (0 : Int))), .c (.sc (.int .i64 (0 : Int))), .c (.sc (.int .i64 (0 : Int))), .c (.sc (.int .i64 (0 : Int)))], .one (.sc (.int .i64 (22 : Int)))] : Tm) = halterref08_Decode.R r ∧ ([] : List Box) = [])))) ∧ ((decide ((IntKind.wrap .i64 (Int.tdiv (IntKind.wrap .i64 (a0)) (16777216 : Int))) > (41 : Int))) = false → (U ∧ (U ∧ (U) ∧ (U) ∧ (U ∧ (((U) ∧ U) ∧ ((U) ∧ U) ∧ (.tup [.agg [.c (.sc (.int .i64 (IntKind.wrap .i64 (Int.tdiv (IntKind.wrap .i64 (a0)) (16777216 : Int))))), .c (.sc (.int .i64 (Int.tmod (IntKind.wrap .i64 (Int.tdiv (IntKind.wrap .i64 (a0)) (1048576 : Int))) (16 : Int)))), .c (.sc (.int .i64 (Int.tmod (IntKind.wrap .i64 (Int.tdiv (IntKind.wrap .i64 (a0)) (65536 : Int))) (16 : Int)))), .c (.sc (.int .i64 (Int.tmod (IntKind.wrap .i64 (a0)) (65536 : Int))))], .one (.sc (.int .i64 (0 : Int)))] : Tm) = halterref08_Decode.R r ∧ ([] : List Box) = []))))))))) (by kernel_rfl) ?_)
  refine tI ?_
  refine ⟨(by decide), ?_⟩
  refine ⟨(by decide), ?_⟩
  refine ⟨(by decide), ?_⟩
  refine ⟨(by decide), ?_⟩
  refine ⟨(by decide), ?_⟩
  refine ⟨(by decide), ?_⟩
  refine ⟨T, T, T, ?_⟩
  refine ⟨fun b1 => ?_, fun b1 => ?_⟩
  · rw [if_pos (dT_ b1)] at h
    refine ⟨T, T, T, T, T, ?_⟩
    refine ⟨fun b2 => ?_, fun b2 => ?_⟩
    · rw [if_pos (dT_ b2)] at h
      refine ⟨T, T, T, ?_⟩
      obtain rfl := oi h
      exact ⟨⟨T, T⟩, ⟨T, T⟩, rfl, rfl⟩
    · rw [if_neg (dF_ b2)] at h
      refine ⟨T, T, T, T, T, ?_⟩
      obtain rfl := oi h
      exact ⟨⟨T, T⟩, ⟨T, T⟩, rfl, rfl⟩
  · rw [if_neg (dF_ b1)] at h
    refine ⟨T, T, ?_⟩
    refine ⟨fun b3 => ?_, fun b3 => ?_⟩
    · rw [if_pos (dT_ b3)] at h
      refine ⟨T, T, T, ?_⟩
      obtain rfl := oi h
      exact ⟨⟨T, T⟩, ⟨T, T⟩, rfl, rfl⟩
    · rw [if_neg (dF_ b3)] at h
      refine ⟨T, T, T, T, T, ?_⟩
      obtain rfl := oi h
      exact ⟨⟨T, T⟩, ⟨T, T⟩, rfl, rfl⟩
def cpu_Step_v1.f (a0 : (List Int)) (a1 : Int) (a2 : Int) (a3 : (List Int)) : Option (TY1) :=
  some (a0, a1, a2, a3, (4 : Int), (7 : Int), a1)
def cpu_Step_v1.R (r : TY1) : Tm := .tup [.agg [.row 16 (.int .u32) r.1, .c (.sc (.int .u32 r.2.1)), .c (.sc (.int .u32 r.2.2.1)), .row 4 (.int .u64) r.2.2.2.1], .agg [.c (.sc (.int .i64 r.2.2.2.2.1)), .c (.sc (.int .i64 r.2.2.2.2.2.1)), .c (.sc (.int .u32 r.2.2.2.2.2.2))]]
def cpu_Step_v1.B (a0 : (List Int)) (a1 : Int) (a2 : Int) (a3 : (List Int)) (r : TY1) : List Box := []
theorem cpu_Step_v1.fun_ {a0 : (List Int)} {a1 : Int} {a2 : Int} {a3 : (List Int)} {r : TY1} (h : cpu_Step_v1.f a0 a1 a2 a3 = some r) : Fun cfg 7 [.one (.err none), .agg [.row 16 (.int .u32) a0, .c (.sc (.int .u32 a1)), .c (.sc (.int .u32 a2)), .row 4 (.int .u64) a3]] [] (cpu_Step_v1.R r) (cpu_Step_v1.B a0 a1 a2 a3 r) := by
  unfold cpu_Step_v1.f at h
  refine funS_of_run cfg_ok (f := 7) (fn := Try.f7) (L := [(cpath (Try.f7.body.getD .skip) [0]), (cpath (Try.f7.body.getD .skip) [1, 0]), (cpath (Try.f7.body.getD .skip) [1, 1, 0])]) (i3 := 4) (i4 := 5) (o1 := (opAt (cpath (Try.f7.body.getD .skip) [1, 1, 1, 0]) 0)) (o2 := (opAt (cpath (Try.f7.body.getD .skip) [1, 1, 1, 0]) 1)) (o3 := (opAt (cpath (Try.f7.body.getD .skip) [1, 1, 1, 1, 0]) 0)) (o4 := (opAt (cpath (Try.f7.body.getD .skip) [1, 1, 1, 1, 0]) 1)) Try.func7 (by kernel_rfl) (by kernel_rfl) (rs := [.cell 4 34, .cell 5 36]) rfl (nt := 27) rfl (l := fin) (by kernel_rfl) (by kernel_rfl) (by kernel_rfl) (by kernel_rfl) (k := (oT 5 (.drP [(1, dN), (0, dN), (2, ⟨none, .no, true⟩), (3, dN), (4, ⟨none, .no, true⟩), (5, dN)] [([1, 0, 4, 2, 3, 5], [0, 1, 2])] ⟨([.v (.one (.err none)), .v (.agg [.row 16 (.int .u32) a0, .c (.sc (.int .u32 a1)), .c (.sc (.int .u32 a2)), .row 4 (.int .u64) a3]), A, P0, .v (.one (.ptr 1 ⟨0, 0, 0, 0⟩)), .v (.one (.ptr 2 ⟨0, 0, 0, 0⟩)), A, .v (.one (.err none)), vb true, vb true, .tup [], .tup [], .tup [], vb true, .v (.agg [.row 16 (.int .u32) a0, .c (.sc (.int .u32 a1)), .c (.sc (.int .u32 a2)), .row 4 (.int .u64) a3]), pt 16 0 0, vi .u32 a1, .v (.agg [.c (.sc (.int .i64 (4 : Int))), .c (.sc (.int .i64 (7 : Int))), .c (.sc (.int .u32 a1))])] ++ (rA 9 [])), (kB3 a0 a1 a2 a3), 0⟩ (.adj [] (.adj [.drop 0] .nil))))) (to_goal (q := (U) ∧ (true = true ∧ (true = true ∧ (true = true ∧ (true = true ∧ (true = true ∧ (((U) ∧ (U) ∧ (U) ∧ (U) ∧ (⟨([.v (.one (.err none)), .v (.agg [.row 16 (.int .u32) a0, .c (.sc (.int .u32 a1)), .c (.sc (.int .u32 a2)), .row 4 (.int .u64) a3]), A, P0, .v (.one (.ptr 1 ⟨0, 0, 0, 0⟩)), .v (.one (.ptr 2 ⟨0, 0, 0, 0⟩)), A, .v (.one (.err none)), vb true, vb true, .tup [], .tup [], .tup [], vb true, .v (.agg [.row 16 (.int .u32) a0, .c (.sc (.int .u32 a1)), .c (.sc (.int .u32 a2)), .row 4 (.int .u64) a3]), pt 16 0 0, vi .u32 a1, .v (.agg [.c (.sc (.int .i64 (4 : Int))), .c (.sc (.int .i64 (7 : Int))), .c (.sc (.int .u32 a1))])] ++ (rA 9 [])), (kB3 a0 a1 a2 a3), 0⟩ : St) = ⟨([.v (.one (.err none)), .v (.agg [.row 16 (.int .u32) a0, .c (.sc (.int .u32 a1)), .c (.sc (.int .u32 a2)), .row 4 (.int .u64) a3]), A, P0, .v (.one (.ptr 1 ⟨0, 0, 0, 0⟩)), .v (.one (.ptr 2 ⟨0, 0, 0, 0⟩)), A, .v (.one (.err none)), vb true, vb true, .tup [], .tup [], .tup [], vb true, .v (.agg [.row 16 (.int .u32) a0, .c (.sc (.int .u32 a1)), .c (.sc (.int .u32 a2)), .row 4 (.int .u64) a3]), pt 16 0 0, vi .u32 a1, .v (.agg [.c (.sc (.int .i64 (4 : Int))), .c (.sc (.int .i64 (7 : Int))), .c (.sc (.int .u32 a1))])] ++ (rA 9 [])), (kB3 a0 a1 a2 a3), 0⟩) ∧ (((U) ∧ (U) ∧ (U) ∧ (U) ∧ U ∧ (⟨([.v (.one (.err none)), .v (.agg [.row 16 (.int .u32) a0, .c (.sc (.int .u32 a1)), .c (.sc (.int .u32 a2)), .row 4 (.int .u64) a3]), A, P0, .v (.one (.ptr 1 ⟨0, 0, 0, 0⟩)), .v (.one (.ptr 2 ⟨0, 0, 0, 0⟩)), A, .v (.one (.err none)), vb true, vb true, .tup [], .tup [], .tup [], vb true, .v (.agg [.row 16 (.int .u32) a0, .c (.sc (.int .u32 a1)), .c (.sc (.int .u32 a2)), .row 4 (.int .u64) a3]), pt 16 0 0, vi .u32 a1, .v (.agg [.c (.sc (.int .i64 (4 : Int))), .c (.sc (.int .i64 (7 : Int))), .c (.sc (.int .u32 a1))])] ++ (rA 9 [])), (kB3 a0 a1 a2 a3), 0⟩ : St) = ⟨([.v (.one (.err none)), .v (.agg [.row 16 (.int .u32) a0, .c (.sc (.int .u32 a1)), .c (.sc (.int .u32 a2)), .row 4 (.int .u64) a3]), A, P0, .v (.one (.ptr 1 ⟨0, 0, 0, 0⟩)), .v (.one (.ptr 2 ⟨0, 0, 0, 0⟩)), A, .v (.one (.err none)), vb true, vb true, .tup [], .tup [], .tup [], vb true, .v (.agg [.row 16 (.int .u32) a0, .c (.sc (.int .u32 a1)), .c (.sc (.int .u32 a2)), .row 4 (.int .u64) a3]), pt 16 0 0, vi .u32 a1, .v (.agg [.c (.sc (.int .i64 (4 : Int))), .c (.sc (.int .i64 (7 : Int))), .c (.sc (.int .u32 a1))])] ++ (rA 9 [])), (kB3 a0 a1 a2 a3), 0⟩) ∧ U) ∧ (U ∧ (((U) ∧ (U) ∧ U) ∧ ((U) ∧ U) ∧ (.tup [.agg [.row 16 (.int .u32) a0, .c (.sc (.int .u32 a1)), .c (.sc (.int .u32 a2)), .row 4 (.int .u64) a3], .agg [.c (.sc (.int .i64 (4 : Int))), .c (.sc (.int .i64 (7 : Int))), .c (.sc (.int .u32 a1))]] : Tm) = cpu_Step_v1.R r ∧ ([] : List Box) = cpu_Step_v1.B a0 a1 a2 a3 r))))))))) (by kernel_rfl) ?_)
  refine ⟨T, rfl, rfl, rfl, rfl, rfl, ?_⟩
  refine ⟨⟨T, T, T, T, rfl⟩, ⟨⟨T, T, T, T, T, rfl⟩, T⟩, ?_⟩
  refine tI ?_
  obtain rfl := oi h
  exact ⟨⟨T, T, T⟩, ⟨T, T⟩, rfl, rfl⟩
def halterlaw12_sure.f : Option Bool :=
  (halterlaw12_laid.f [(17825797 : Int)]).bind fun t1 =>
  (cpu_Step.f (List.replicate 16 (0 : Int)) (0 : Int) (16 : Int) (List.replicate 4 (0 : Int)) t1.1 t1.2.1 t1.2.2).bind fun t2 =>
  (halterlaw12_laid.f [(118489088 : Int)]).bind fun t3 =>
  (cpu_Step.f (List.replicate 16 (0 : Int)) (0 : Int) (0 : Int) (List.replicate 4 (0 : Int)) t3.1 t3.2.1 t3.2.2).bind fun t4 =>
  (cpu_Step_v1.f (List.replicate 16 (0 : Int)) (8 : Int) (0 : Int) (List.replicate 4 (0 : Int))).bind fun t5 =>
  if (List.getD t2.1 1 (0 : Int)) = (5 : Int) then
    if t2.2.1 = (4 : Int) then
      if t2.2.2.2.2.1 = (3 : Int) then
        if t4.2.1 = (0 : Int) then
          if (t4.2.2.2.2.1 = (4 : Int) ∧ (t4.2.2.2.2.2.1 = (8 : Int) ∧ t4.2.2.2.2.2.2.1 = (0 : Int))) then
            some ((t5.2.2.2.2.1 == (4 : Int)) && ((t5.2.2.2.2.2.1 == (7 : Int)) && ((t5.2.2.2.2.2.2 == (8 : Int)) && true)))
          else
            some false
        else
          some false
      else
        some false
    else
      some false
  else
    some false
def halterlaw12_sure.R (r : Bool) : Tm := vb r
theorem halterlaw12_sure.fun_ {r : Bool} (h : halterlaw12_sure.f = some r) : Fun cfg 10 [] [] (halterlaw12_sure.R r) [] := by
  unfold halterlaw12_sure.f at h
  refine fun_of_run cfg_ok (f := 10) (fn := Try.f10) Try.func10 rfl (by kernel_rfl) (rs := [.tmp 0]) rfl (nt := 57) rfl (l := fin) (k := (.d .no (.callR true [] [] (Int × Int × (List Int)) (fun t1 => (halterlaw12_laid.R t1)) (fun t1 => (halterlaw12_laid.B [(17825797 : Int)] t1)) (fun t1 => (.aj [.fixB true 2] (.callR true [] [1, 2] (TY2) (fun t2 => (cpu_Step.R t2)) (fun t2 => (cpu_Step.B (List.replicate 16 (0 : Int)) (0 : Int) (16 : Int) (List.replicate 4 (0 : Int)) t1.1 t1.2.1 (z2 t1) t2)) (fun t2 => (.d .no (.callR true [] [] (Int × Int × (List Int)) (fun t3 => (halterlaw12_laid.R t3)) (fun t3 => (halterlaw12_laid.B [(118489088 : Int)] t3)) (fun t3 => (.aj [.fixB true 7] (.callR true [] [6, 7] (TY2) (fun t4 => (cpu_Step.R t4)) (fun t4 => (cpu_Step.B (List.replicate 16 (0 : Int)) (0 : Int) (0 : Int) (List.replicate 4 (0 : Int)) t3.1 t3.2.1 (z2 t3) t4)) (fun t4 => (.callR true [] [] (TY1) (fun t5 => (cpu_Step_v1.R t5)) (fun t5 => (cpu_Step_v1.B (List.replicate 16 (0 : Int)) (8 : Int) (0 : Int) (List.replicate 4 (0 : Int)) t5)) (fun t5 => (.br (oT 3 (.br (oT 3 (.br (oT 3 (.br (oT 3 (.br (oT 3 (.adj [] (.adj [.drop 0] .nil))) (oF 3 (.adj [] (.adj [.drop 0] .nil))))) (oF 7 (.adj [] (.adj [.drop 0] .nil))))) (oF 11 (.adj [] (.adj [.drop 0] .nil))))) (oF 15 (.adj [] (.adj [.drop 0] .nil))))) (oF 19 (.adj [] (.adj [.drop 0] .nil))))))))))))))))))) (to_goal (q := (∃ t1 : Int × Int × (List Int), ((0 = 0 ∧ 1 = 1) ∧ Fun cfg 6 [.one (.fs (.int .u32) [(17825797 : Int)] false)] [] (halterlaw12_laid.R t1) (halterlaw12_laid.B [(17825797 : Int)] t1) ∧ U) ∧ (((U) ∧ U) ∧ (∃ t2 : TY2, (Fun cfg 7 [.one (.ip 29 0), .agg [.row 16 (.int .u32) (List.replicate 16 (0 : Int)), .c (.sc (.int .u32 (0 : Int))), .c (.sc (.int .u32 (16 : Int))), .row 4 (.int .u64) (List.replicate 4 (0 : Int))]] [.ex false [.c (.os 1 0 0 1 (List.length (z2 t1)) none), .c (.sc (.int .i64 t1.1)), .c (.sc (.int .i64 t1.2.1))] 33, .fix false (.int .u8) (z2 t1) 5] (cpu_Step.R t2) (cpu_Step.B (List.replicate 16 (0 : Int)) (0 : Int) (16 : Int) (List.replicate 4 (0 : Int)) t1.1 t1.2.1 (z2 t1) t2) ∧ U) ∧ (U) ∧ (U) ∧ (∃ t3 : Int × Int × (List Int), ((0 = 0 ∧ 1 = 1) ∧ Fun cfg 6 [.one (.fs (.int .u32) [(118489088 : Int)] false)] [] (halterlaw12_laid.R t3) (halterlaw12_laid.B [(118489088 : Int)] t3) ∧ U) ∧ (((U) ∧ U) ∧ (∃ t4 : TY2, (Fun cfg 7 [.one (.ip 29 0), .agg [.row 16 (.int .u32) (List.replicate 16 (0 : Int)), .c (.sc (.int .u32 (0 : Int))), .c (.sc (.int .u32 (0 : Int))), .row 4 (.int .u64) (List.replicate 4 (0 : Int))]] [.ex false [.c (.os 1 0 0 1 (List.length (z2 t3)) none), .c (.sc (.int .i64 t3.1)), .c (.sc (.int .i64 t3.2.1))] 33, .fix false (.int .u8) (z2 t3) 5] (cpu_Step.R t4) (cpu_Step.B (List.replicate 16 (0 : Int)) (0 : Int) (0 : Int) (List.replicate 4 (0 : Int)) t3.1 t3.2.1 (z2 t3) t4) ∧ U) ∧ (U) ∧ (U) ∧ (∃ t5 : TY1, (Fun cfg 7 [.one (.err none), .agg [.row 16 (.int .u32) (List.replicate 16 (0 : Int)), .c (.sc (.int .u32 (8 : Int))), .c (.sc (.int .u32 (0 : Int))), .row 4 (.int .u64) (List.replicate 4 (0 : Int))]] [] (cpu_Step_v1.R t5) (cpu_Step_v1.B (List.replicate 16 (0 : Int)) (8 : Int) (0 : Int) (List.replicate 4 (0 : Int)) t5) ∧ U) ∧ (U) ∧ (U) ∧ (0 ≤ (1 : Int) ∧ (1 : Int) < ((16 : Nat) : Int)) ∧ (1 < 16) ∧ (U) ∧ ((((List.getD t2.1 1 (0 : Int)) == (5 : Int)) = true → (((List.getD t2.1 1 (0 : Int)) == (5 : Int)) = true ∧ (U) ∧ (((List.getD t2.1 1 (0 : Int)) == (5 : Int)) = true ∧ (U) ∧ (((List.getD t2.1 1 (0 : Int)) == (5 : Int)) = true ∧ (((t2.2.1 == (4 : Int)) = true → ((t2.2.1 == (4 : Int)) = true ∧ (U) ∧ ((t2.2.1 == (4 : Int)) = true ∧ (U) ∧ ((t2.2.1 == (4 : Int)) = true ∧ ((((p4 t2) == (3 : Int)) = true → (((p4 t2) == (3 : Int)) = true ∧ (U) ∧ (((p4 t2) == (3 : Int)) = true ∧ (U) ∧ (((p4 t2) == (3 : Int)) = true ∧ (((t4.2.1 == (0 : Int)) = true → (U) ∧ ((t4.2.1 == (0 : Int)) = true ∧ ((t4.2.1 == (0 : Int)) = true ∧ (U) ∧ ((t4.2.1 == (0 : Int)) = true ∧ (((((p4 t4) == (4 : Int)) && (((p5 t4) == (8 : Int)) && (((p6 t4) == (0 : Int)) && true))) = true → (U) ∧ ((((p4 t4) == (4 : Int)) && (((p5 t4) == (8 : Int)) && (((p6 t4) == (0 : Int)) && true))) = true ∧ ((((p4 t4) == (4 : Int)) && (((p5 t4) == (8 : Int)) && (((p6 t4) == (0 : Int)) && true))) = true ∧ (U) ∧ ((((p4 t4) == (4 : Int)) && (((p5 t4) == (8 : Int)) && (((p6 t4) == (0 : Int)) && true))) = true ∧ (U ∧ ((U) ∧ ((U) ∧ U) ∧ (vb (((p4 t5) == (4 : Int)) && (((p5 t5) == (7 : Int)) && (((z6 t5) == (8 : Int)) && true))) : Tm) = halterlaw12_sure.R r ∧ ([] : List Box) = [])))))) ∧ ((((p4 t4) == (4 : Int)) && (((p5 t4) == (8 : Int)) && (((p6 t4) == (0 : Int)) && true))) = false → ((((p4 t4) == (4 : Int)) && (((p5 t4) == (8 : Int)) && (((p6 t4) == (0 : Int)) && true))) = false ∧ ((((p4 t4) == (4 : Int)) && (((p5 t4) == (8 : Int)) && (((p6 t4) == (0 : Int)) && true))) = false ∧ ((((p4 t4) == (4 : Int)) && (((p5 t4) == (8 : Int)) && (((p6 t4) == (0 : Int)) && true))) = false ∧ (U ∧ ((U) ∧ ((U) ∧ U) ∧ (vb false : Tm) = halterlaw12_sure.R r ∧ ([] : List Box) = []))))))))))) ∧ ((t4.2.1 == (0 : Int)) = false → ((t4.2.1 == (0 : Int)) = false ∧ ((t4.2.1 == (0 : Int)) = false ∧ ((t4.2.1 == (0 : Int)) = false ∧ (false = false ∧ (false = false ∧ (false = false ∧ (false = false ∧ (U ∧ ((U) ∧ ((U) ∧ U) ∧ (vb false : Tm) = halterlaw12_sure.R r ∧ ([] : List Box) = []))))))))))))))) ∧ (((p4 t2) == (3 : Int)) = false → (((p4 t2) == (3 : Int)) = false ∧ (((p4 t2) == (3 : Int)) = false ∧ (((p4 t2) == (3 : Int)) = false ∧ (false = false ∧ (false = false ∧ (false = false ∧ (false = false ∧ (false = false ∧ (false = false ∧ (false = false ∧ (false = false ∧ (U ∧ ((U) ∧ ((U) ∧ U) ∧ (vb false : Tm) = halterlaw12_sure.R r ∧ ([] : List Box) = []))))))))))))))))))) ∧ ((t2.2.1 == (4 : Int)) = false → ((t2.2.1 == (4 : Int)) = false ∧ ((t2.2.1 == (4 : Int)) = false ∧ ((t2.2.1 == (4 : Int)) = false ∧ (false = false ∧ (false = false ∧ (false = false ∧ (false = false ∧ (false = false ∧ (false = false ∧ (false = false ∧ (false = false ∧ (false = false ∧ (false = false ∧ (false = false ∧ (false = false ∧ (U ∧ ((U) ∧ ((U) ∧ U) ∧ (vb false : Tm) = halterlaw12_sure.R r ∧ ([] : List Box) = []))))))))))))))))))))))) ∧ (((List.getD t2.1 1 (0 : Int)) == (5 : Int)) = false → (((List.getD t2.1 1 (0 : Int)) == (5 : Int)) = false ∧ (((List.getD t2.1 1 (0 : Int)) == (5 : Int)) = false ∧ (((List.getD t2.1 1 (0 : Int)) == (5 : Int)) = false ∧ (false = false ∧ (false = false ∧ (false = false ∧ (false = false ∧ (false = false ∧ (false = false ∧ (false = false ∧ (false = false ∧ (false = false ∧ (false = false ∧ (false = false ∧ (false = false ∧ (false = false ∧ (false = false ∧ (false = false ∧ (false = false ∧ (U ∧ ((U) ∧ ((U) ∧ U) ∧ (vb false : Tm) = halterlaw12_sure.R r ∧ ([] : List Box) = []))))))))))))))))))))))))))))))) (by kernel_rfl) ?_)
  obtain ⟨t1, ht1, h⟩ := of_bind h
  refine ⟨t1, ⟨⟨rfl, rfl⟩, halterlaw12_laid.fun_ ht1, T⟩, ?_⟩
  refine ⟨⟨T, T⟩, ?_⟩
  obtain ⟨t2, ht2, h⟩ := of_bind h
  refine ⟨t2, ⟨cpu_Step.fun_ ht2, T⟩, ?_⟩
  refine ⟨T, T, ?_⟩
  obtain ⟨t3, ht3, h⟩ := of_bind h
  refine ⟨t3, ⟨⟨rfl, rfl⟩, halterlaw12_laid.fun_ ht3, T⟩, ?_⟩
  refine ⟨⟨T, T⟩, ?_⟩
  obtain ⟨t4, ht4, h⟩ := of_bind h
  refine ⟨t4, ⟨cpu_Step.fun_ ht4, T⟩, ?_⟩
  refine ⟨T, T, ?_⟩
  obtain ⟨t5, ht5, h⟩ := of_bind h
  refine ⟨t5, ⟨cpu_Step_v1.fun_ ht5, T⟩, ?_⟩
  refine ⟨T, T, ?_⟩
  refine ⟨(by decide), ?_⟩
  refine ⟨(by decide), ?_⟩
  refine tI ?_
  refine ⟨fun b6 => ?_, fun b6 => ?_⟩
  · rw [if_pos (beq_t b6)] at h
    refine ⟨b6, ?_⟩
    refine tI ?_
    refine ⟨b6, ?_⟩
    refine tI ?_
    refine ⟨b6, ?_⟩
    refine ⟨fun b7 => ?_, fun b7 => ?_⟩
    · rw [if_pos (beq_t b7)] at h
      refine ⟨b7, ?_⟩
      refine tI ?_
      refine ⟨b7, ?_⟩
      refine tI ?_
      refine ⟨b7, ?_⟩
      refine ⟨fun b8 => ?_, fun b8 => ?_⟩
      · rw [if_pos (beq_t b8)] at h
        refine ⟨b8, ?_⟩
        refine tI ?_
        refine ⟨b8, ?_⟩
        refine tI ?_
        refine ⟨b8, ?_⟩
        refine ⟨fun b9 => ?_, fun b9 => ?_⟩
        · rw [if_pos (beq_t b9)] at h
          refine tI ?_
          refine ⟨b9, ?_⟩
          refine ⟨b9, ?_⟩
          refine tI ?_
          refine ⟨b9, ?_⟩
          refine ⟨fun b10 => ?_, fun b10 => ?_⟩
          · rw [if_pos (and_t (fun h => (beq_t h)) (fun h => (and_t (fun h => (beq_t h)) (fun h => (beq_t (and_l h))) h)) b10)] at h
            refine tI ?_
            refine ⟨b10, ?_⟩
            refine ⟨b10, ?_⟩
            refine tI ?_
            refine ⟨b10, ?_⟩
            refine tI ?_
            obtain rfl := oi h
            exact ⟨T, ⟨T, T⟩, rfl, rfl⟩
          · rw [if_neg (and_f (fun h => (beq_f h)) (fun h => (and_f (fun h => (beq_f h)) (fun h => (beq_f (and_l0 h))) h)) b10)] at h
            refine ⟨b10, ?_⟩
            refine ⟨b10, ?_⟩
            refine ⟨b10, ?_⟩
            refine tI ?_
            obtain rfl := oi h
            exact ⟨T, ⟨T, T⟩, rfl, rfl⟩
        · rw [if_neg (beq_f b9)] at h
          refine ⟨b9, ?_⟩
          refine ⟨b9, ?_⟩
          refine ⟨b9, ?_⟩
          refine ⟨rfl, rfl, rfl, rfl, T, ?_⟩
          obtain rfl := oi h
          exact ⟨T, ⟨T, T⟩, rfl, rfl⟩
      · rw [if_neg (beq_f b8)] at h
        refine ⟨b8, ?_⟩
        refine ⟨b8, ?_⟩
        refine ⟨b8, ?_⟩
        refine ⟨rfl, rfl, rfl, rfl, rfl, rfl, rfl, rfl, T, ?_⟩
        obtain rfl := oi h
        exact ⟨T, ⟨T, T⟩, rfl, rfl⟩
    · rw [if_neg (beq_f b7)] at h
      refine ⟨b7, ?_⟩
      refine ⟨b7, ?_⟩
      refine ⟨b7, ?_⟩
      refine ⟨rfl, rfl, rfl, rfl, rfl, rfl, rfl, rfl, rfl, rfl, rfl, rfl, T, ?_⟩
      obtain rfl := oi h
      exact ⟨T, ⟨T, T⟩, rfl, rfl⟩
  · rw [if_neg (beq_f b6)] at h
    refine ⟨b6, ?_⟩
    refine ⟨b6, ?_⟩
    refine ⟨b6, ?_⟩
    refine ⟨rfl, rfl, rfl, rfl, rfl, rfl, rfl, rfl, rfl, rfl, rfl, rfl, rfl, rfl, rfl, rfl, T, ?_⟩
    obtain rfl := oi h
    exact ⟨T, ⟨T, T⟩, rfl, rfl⟩
def halterlaw12_CpuFails.f (a0 : (List Int)) (a1 : (List Int)) (a2 : Int) (a3 : Int) (a4 : (List Int)) : Option Bool :=
  (halterlaw12_laid.f a0).bind fun t1 =>
  (halterlaw12_laid.f a0).bind fun t2 =>
  if (0 = 0 ∧ (List.length t1.2.2) = (List.length t1.2.2)) ∧ ((List.length t1.2.2) * 1 ≤ 140737488355328 ∧ (List.length t1.2.2) ≤ 9223372036854775807) then
    (cpu_Step.f a1 a2 a3 a4 t1.1 t1.2.1 t1.2.2).bind fun t3 =>
    (cpu_Step.f a1 a2 a3 a4 t2.1 t2.2.1 t2.2.2).bind fun t4 =>
    if ¬ ((t3.1 = t4.1 ∧ (t3.2.1 = t4.2.1 ∧ (t3.2.2.1 = t4.2.2.1 ∧ t3.2.2.2.1 = t4.2.2.2.1)))) then
      some false
    else
      if ¬ ((t3.2.2.2.2.1 = t4.2.2.2.2.1 ∧ (t3.2.2.2.2.2.1 = t4.2.2.2.2.2.1 ∧ t3.2.2.2.2.2.2.1 = t4.2.2.2.2.2.2.1))) then
        some false
      else
        if ¬ ((strOfNums t3.2.2.2.2.2.2.2.2.2) = (strOfNums t4.2.2.2.2.2.2.2.2.2)) then
          some false
        else
          if t3.2.2.2.2.2.2.2.1 > (1 : Int) then
            some false
          else
            if t3.2.2.2.2.1 = (4 : Int) then
              if ¬ ((t3.1 = a1 ∧ (t3.2.1 = a2 ∧ (t3.2.2.1 = a3 ∧ t3.2.2.2.1 = a4)))) then
                some false
              else
                if t3.2.2.2.2.2.2.2.2.1 = (0 : Int) then
                  if ¬ ((strOfNums t3.2.2.2.2.2.2.2.2.2) = (strOfNums t1.2.2)) then
                    some false
                  else
                    if a3 ≤ (31 : Int) then
                      if (Int.tmod a2 (4 : Int)) = (0 : Int) then
                        if (IntKind.wrap .i64 ((IntKind.wrap .i64 (a2)) + (4 : Int))) ≤ (((List.length t1.2.2) : Nat) : Int) then
                          if ((0 ≤ (IntKind.wrap .u32 (a2 + (4 : Int))) ∧ (IntKind.wrap .u32 (a2 + (4 : Int))) ≤ (((List.length t1.2.2) : Nat) : Int))) ∧ ((0 ≤ a2 ∧ a2 ≤ (((Int.toNat (IntKind.wrap .u32 (a2 + (4 : Int)))) : Nat) : Int))) then
                            if (0 + (Int.toNat a2)) + ((Int.toNat (IntKind.wrap .u32 (a2 + (4 : Int)))) - (Int.toNat a2)) ≤ (List.length t1.2.2) then
                              (halterref01_Load.f (List.take ((Int.toNat (IntKind.wrap .u32 (a2 + (4 : Int)))) - (Int.toNat a2)) (List.drop (0 + (Int.toNat a2)) t1.2.2))).bind fun t16 =>
                              (halterref08_Decode.f t16.1).bind fun t17 =>
                              halterlaw12_sure.f.bind fun t18 =>
                              some t18
                            else none
                          else none
                        else
                          halterlaw12_sure.f.bind fun t21 =>
                          some t21
                      else
                        halterlaw12_sure.f.bind fun t22 =>
                        some t22
                    else
                      halterlaw12_sure.f.bind fun t23 =>
                      some t23
                else
                  if a3 ≤ (31 : Int) then
                    if (Int.tmod a2 (4 : Int)) = (0 : Int) then
                      if (IntKind.wrap .i64 ((IntKind.wrap .i64 (a2)) + (4 : Int))) ≤ (((List.length t1.2.2) : Nat) : Int) then
                        if ((0 ≤ (IntKind.wrap .u32 (a2 + (4 : Int))) ∧ (IntKind.wrap .u32 (a2 + (4 : Int))) ≤ (((List.length t1.2.2) : Nat) : Int))) ∧ ((0 ≤ a2 ∧ a2 ≤ (((Int.toNat (IntKind.wrap .u32 (a2 + (4 : Int)))) : Nat) : Int))) then
                          if (0 + (Int.toNat a2)) + ((Int.toNat (IntKind.wrap .u32 (a2 + (4 : Int)))) - (Int.toNat a2)) ≤ (List.length t1.2.2) then
                            (halterref01_Load.f (List.take ((Int.toNat (IntKind.wrap .u32 (a2 + (4 : Int)))) - (Int.toNat a2)) (List.drop (0 + (Int.toNat a2)) t1.2.2))).bind fun t27 =>
                            (halterref08_Decode.f t27.1).bind fun t28 =>
                            if t28.1 = (19 : Int) then
                              halterlaw12_sure.f.bind fun t30 =>
                              some t30
                            else
                              if t28.1 = (20 : Int) then
                                halterlaw12_sure.f.bind fun t32 =>
                                some t32
                              else
                                if t28.1 = (32 : Int) then
                                  halterlaw12_sure.f.bind fun t34 =>
                                  some t34
                                else
                                  some false
                          else none
                        else none
                      else
                        some false
                    else
                      some false
                  else
                    some false
            else
              if t3.2.2.2.2.2.2.2.2.1 = (0 : Int) then
                if ¬ ((strOfNums t3.2.2.2.2.2.2.2.2.2) = (strOfNums t1.2.2)) then
                  some false
                else
                  if a3 ≤ (31 : Int) then
                    if (Int.tmod a2 (4 : Int)) = (0 : Int) then
                      if (IntKind.wrap .i64 ((IntKind.wrap .i64 (a2)) + (4 : Int))) ≤ (((List.length t1.2.2) : Nat) : Int) then
                        if ((0 ≤ (IntKind.wrap .u32 (a2 + (4 : Int))) ∧ (IntKind.wrap .u32 (a2 + (4 : Int))) ≤ (((List.length t1.2.2) : Nat) : Int))) ∧ ((0 ≤ a2 ∧ a2 ≤ (((Int.toNat (IntKind.wrap .u32 (a2 + (4 : Int)))) : Nat) : Int))) then
                          if (0 + (Int.toNat a2)) + ((Int.toNat (IntKind.wrap .u32 (a2 + (4 : Int)))) - (Int.toNat a2)) ≤ (List.length t1.2.2) then
                            (halterref01_Load.f (List.take ((Int.toNat (IntKind.wrap .u32 (a2 + (4 : Int)))) - (Int.toNat a2)) (List.drop (0 + (Int.toNat a2)) t1.2.2))).bind fun t42 =>
                            (halterref08_Decode.f t42.1).bind fun t43 =>
                            halterlaw12_sure.f.bind fun t44 =>
                            some t44
                          else none
                        else none
                      else
                        some false
                    else
                      some false
                  else
                    some false
              else
                if a3 ≤ (31 : Int) then
                  if (Int.tmod a2 (4 : Int)) = (0 : Int) then
                    if (IntKind.wrap .i64 ((IntKind.wrap .i64 (a2)) + (4 : Int))) ≤ (((List.length t1.2.2) : Nat) : Int) then
                      if ((0 ≤ (IntKind.wrap .u32 (a2 + (4 : Int))) ∧ (IntKind.wrap .u32 (a2 + (4 : Int))) ≤ (((List.length t1.2.2) : Nat) : Int))) ∧ ((0 ≤ a2 ∧ a2 ≤ (((Int.toNat (IntKind.wrap .u32 (a2 + (4 : Int)))) : Nat) : Int))) then
                        if (0 + (Int.toNat a2)) + ((Int.toNat (IntKind.wrap .u32 (a2 + (4 : Int)))) - (Int.toNat a2)) ≤ (List.length t1.2.2) then
                          (halterref01_Load.f (List.take ((Int.toNat (IntKind.wrap .u32 (a2 + (4 : Int)))) - (Int.toNat a2)) (List.drop (0 + (Int.toNat a2)) t1.2.2))).bind fun t50 =>
                          (halterref08_Decode.f t50.1).bind fun t51 =>
                          if t51.1 = (19 : Int) then
                            halterlaw12_sure.f.bind fun t53 =>
                            some t53
                          else
                            if t51.1 = (20 : Int) then
                              halterlaw12_sure.f.bind fun t55 =>
                              some t55
                            else
                              if t51.1 = (32 : Int) then
                                halterlaw12_sure.f.bind fun t57 =>
                                some t57
                              else
                                some false
                        else none
                      else none
                    else
                      some false
                  else
                    some false
                else
                  some false
  else none
def halterlaw12_CpuFails.R (r : Bool) : Tm := vb r
end Go.Proofs.YtllannmegnklmaaGCpuFails
