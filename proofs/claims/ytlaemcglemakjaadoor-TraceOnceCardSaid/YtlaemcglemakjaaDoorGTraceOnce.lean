/- Printed by gen.py: the next part. -/
import Derived.Test.YtlaemcglemakjaaDoorGTraceOncep0
set_option linter.unusedVariables false
set_option maxRecDepth 100000
set_option maxHeartbeats 4000000
namespace Go.Proofs.YtlaemcglemakjaaDoorGTraceOnce
open Go Go.Proofs.YtlaemcglemakjaaDoorE
theorem halterlaw27_TraceOnce.l0_ok (a0 : (List (Int × (Int × (Int × Int))))) : ∀ (n : Nat) (x94 : Int) (x95 : Bool) (x96 : Int) (x97 : Int) (x98 : Int) (x99 : Bool) (x100 : Bool) (x101 : Bool) (x102 : Bool) (x103 : Int) (r : (Int × Bool × Int × Int × Int × Bool) ⊕ (Int × Bool × Int × Int × Int × Bool)), halterlaw27_TraceOnce.l0 a0 n x94 x95 x96 x97 x98 x99 x100 x101 x102 x103 = some r → TripN cfg (cpath (Tryd.f4.body.getD .skip) [1, 1, 1, 0, 1, 0, 0]) n (halterlaw27_TraceOnce.l0_S a0 x94 x95 x96 x97 x98 x99 x100 x101 x102 x103) (halterlaw27_TraceOnce.l0_Q a0 r) := by
  intro n
  induction n with
  | zero => intro x94 x95 x96 x97 x98 x99 x100 x101 x102 x103 r h; cases h
  | succ n ih =>
    intro x94 x95 x96 x97 x98 x99 x100 x101 x102 x103 r h
    rw [halterlaw27_TraceOnce.l0] at h
    refine TripN.of_run cfg_ok (k := (.br (.one true (.one true (.br (.call true [] (Int × Int) (fun t210 => halterref26_Of.R t210) (fun t210 => (.br (.ex (Int × Bool × Int × Int × Int × Bool × (Option Int)) (fun t213 => (.dr [(1, ⟨none, .no⟩), (2, ⟨none, .no⟩), (0, ⟨none, .no⟩), (3, ⟨none, .no⟩), (4, ⟨none, .no⟩), (5, ⟨none, .no⟩), (6, ⟨none, .no⟩), (7, ⟨none, .no⟩), (8, ⟨none, .no⟩), (9, ⟨none, .no⟩), (10, ⟨none, .call true [] (trace_Attach.R t213)⟩), (11, ⟨none, .no⟩), (12, ⟨none, .no⟩), (13, ⟨none, .no⟩), (14, ⟨none, .no⟩), (15, ⟨none, .no⟩)] (.br (.adj [] (.adj [.keep [2], .drop 1] .nil)) (.br (.call true [] ((Option Int)) (fun t216 => trace_Check.R t216) (fun t216 => (.br (.one true (.one true (.one true (.one true (.one true (.one true (.one true (.one true (.one true (.one true (.one true (.one true (.one true (.one true (.one true (.one true (.one true (.adj [] (.adj [.keep [2], .drop 1] .nil))))))))))))))))))) (.one false (.one false (.one false (.one false (.br (.one true (.one true (.one true (.one true (.one true (.one true (.one true (.one true (.one true (.one true (.one true (.one true (.adj [] (.adj [.keep [2], .drop 1] .nil)))))))))))))) (.one false (.one false (.one false (.one false (.one false (.br (.one true (.one true (.one true (.one true (.one true (.one true (.adj [] (.adj [.keep [2], .drop 1] .nil)))))))) (.one false (.one false (.one false (.one false (.one false (.br (.adj [] (.adj [.keep [2], .drop 1] .nil)) (.adj [] (.adj [] (.adj [.keep [0, 3, 4, 5, 6, 7], .drop 1] .nil))))))))))))))))))))))) (.call true [] ((Option Int)) (fun t221 => trace_Check.R t221) (fun t221 => (.br (.one true (.one true (.one true (.one true (.one true (.one true (.one true (.one true (.one true (.one true (.one true (.one true (.one true (.one true (.one true (.one true (.one true (.adj [] (.adj [.keep [2], .drop 1] .nil))))))))))))))))))) (.one false (.one false (.one false (.one false (.br (.one true (.one true (.one true (.one true (.one true (.one true (.one true (.one true (.one true (.one true (.one true (.one true (.adj [] (.adj [.keep [2], .drop 1] .nil)))))))))))))) (.one false (.one false (.one false (.one false (.one false (.br (.one true (.one true (.one true (.one true (.one true (.one true (.adj [] (.adj [.keep [2], .drop 1] .nil)))))))) (.one false (.one false (.one false (.one false (.one false (.br (.adj [] (.adj [.keep [2], .drop 1] .nil)) (.adj [] (.adj [] (.adj [.keep [0, 3, 4, 5, 6, 7], .drop 1] .nil)))))))))))))))))))))))))))) (.br (.call true [] (Int × Bool × Int × Int × Int × Bool × (Option Int)) (fun t227 => trace_Stop.R t227) (fun t227 => (.br (.one true (.one true (.br (.adj [] (.adj [.keep [2], .drop 1] .nil)) (.br (.one true (.call true [] ((Option Int)) (fun t231 => trace_Check.R t231) (fun t231 => (.br (.one true (.one true (.one true (.one true (.one true (.one true (.one true (.one true (.one true (.one true (.one true (.one true (.one true (.one true (.one true (.one true (.one true (.adj [] (.adj [.keep [2], .drop 1] .nil))))))))))))))))))) (.one false (.one false (.one false (.one false (.br (.one true (.one true (.one true (.one true (.one true (.one true (.one true (.one true (.one true (.one true (.one true (.one true (.adj [] (.adj [.keep [2], .drop 1] .nil)))))))))))))) (.one false (.one false (.one false (.one false (.one false (.br (.one true (.one true (.one true (.one true (.one true (.one true (.adj [] (.adj [.keep [2], .drop 1] .nil)))))))) (.one false (.one false (.one false (.one false (.one false (.br (.adj [] (.adj [.keep [2], .drop 1] .nil)) (.adj [] (.adj [] (.adj [.keep [0, 3, 4, 5, 6, 7], .drop 1] .nil)))))))))))))))))))))))) (.one false (.call true [] ((Option Int)) (fun t236 => trace_Check.R t236) (fun t236 => (.br (.one true (.one true (.one true (.one true (.one true (.one true (.one true (.one true (.one true (.one true (.one true (.one true (.one true (.one true (.one true (.one true (.one true (.adj [] (.adj [.keep [2], .drop 1] .nil))))))))))))))))))) (.one false (.one false (.one false (.one false (.br (.one true (.one true (.one true (.one true (.one true (.one true (.one true (.one true (.one true (.one true (.one true (.one true (.adj [] (.adj [.keep [2], .drop 1] .nil)))))))))))))) (.one false (.one false (.one false (.one false (.one false (.br (.one true (.one true (.one true (.one true (.one true (.one true (.adj [] (.adj [.keep [2], .drop 1] .nil)))))))) (.one false (.one false (.one false (.one false (.one false (.br (.adj [] (.adj [.keep [2], .drop 1] .nil)) (.adj [] (.adj [] (.adj [.keep [0, 3, 4, 5, 6, 7], .drop 1] .nil)))))))))))))))))))))))))))) (.one false (.one false (.br (.adj [] (.adj [.keep [2], .drop 1] .nil)) (.br (.one true (.call true [] ((Option Int)) (fun t243 => trace_Check.R t243) (fun t243 => (.br (.one true (.one true (.one true (.one true (.one true (.one true (.one true (.one true (.one true (.one true (.one true (.one true (.one true (.one true (.one true (.one true (.one true (.adj [] (.adj [.keep [2], .drop 1] .nil))))))))))))))))))) (.one false (.one false (.one false (.one false (.br (.one true (.one true (.one true (.one true (.one true (.one true (.one true (.one true (.one true (.one true (.one true (.one true (.adj [] (.adj [.keep [2], .drop 1] .nil)))))))))))))) (.one false (.one false (.one false (.one false (.one false (.br (.one true (.one true (.one true (.one true (.one true (.one true (.adj [] (.adj [.keep [2], .drop 1] .nil)))))))) (.one false (.one false (.one false (.one false (.one false (.br (.adj [] (.adj [.keep [2], .drop 1] .nil)) (.adj [] (.adj [] (.adj [.keep [0, 3, 4, 5, 6, 7], .drop 1] .nil)))))))))))))))))))))))) (.one false (.call true [] ((Option Int)) (fun t248 => trace_Check.R t248) (fun t248 => (.br (.one true (.one true (.one true (.one true (.one true (.one true (.one true (.one true (.one true (.one true (.one true (.one true (.one true (.one true (.one true (.one true (.one true (.adj [] (.adj [.keep [2], .drop 1] .nil))))))))))))))))))) (.one false (.one false (.one false (.one false (.br (.one true (.one true (.one true (.one true (.one true (.one true (.one true (.one true (.one true (.one true (.one true (.one true (.adj [] (.adj [.keep [2], .drop 1] .nil)))))))))))))) (.one false (.one false (.one false (.one false (.one false (.br (.one true (.one true (.one true (.one true (.one true (.one true (.adj [] (.adj [.keep [2], .drop 1] .nil)))))))) (.one false (.one false (.one false (.one false (.one false (.br (.adj [] (.adj [.keep [2], .drop 1] .nil)) (.adj [] (.adj [] (.adj [.keep [0, 3, 4, 5, 6, 7], .drop 1] .nil))))))))))))))))))))))))))))))) (.br (.call true [] (Int × Int × Bool × Int × Int × Int × Bool × (Option Int)) (fun t254 => trace_Collect.R t254) (fun t254 => (.br (.one true (.one true (.one true (.one true (.one true (.adj [] (.adj [.keep [2], .drop 1] .nil))))))) (.one false (.one false (.br (.one true (.one false (.one true (.one false (.br (.adj [] (.adj [.keep [2], .drop 1] .nil)) (.one true (.call true [] ((Option Int)) (fun t258 => trace_Check.R t258) (fun t258 => (.br (.one true (.one true (.one true (.one true (.one true (.one true (.one true (.one true (.one true (.one true (.one true (.one true (.one true (.one true (.one true (.one true (.one true (.adj [] (.adj [.keep [2], .drop 1] .nil))))))))))))))))))) (.one false (.one false (.one false (.one false (.br (.one true (.one true (.one true (.one true (.one true (.one true (.one true (.one true (.one true (.one true (.one true (.one true (.adj [] (.adj [.keep [2], .drop 1] .nil)))))))))))))) (.one false (.one false (.one false (.one false (.one false (.br (.one true (.one true (.one true (.one true (.one true (.one true (.adj [] (.adj [.keep [2], .drop 1] .nil)))))))) (.one false (.one false (.one false (.one false (.one false (.br (.adj [] (.adj [.keep [2], .drop 1] .nil)) (.adj [] (.adj [] (.adj [.keep [0, 3, 4, 5, 6, 7], .drop 1] .nil))))))))))))))))))))))))))))) (.one false (.one false (.one false (.one false (.one false (.one false (.call true [] ((Option Int)) (fun t263 => trace_Check.R t263) (fun t263 => (.br (.one true (.one true (.one true (.one true (.one true (.one true (.one true (.one true (.one true (.one true (.one true (.one true (.one true (.one true (.one true (.one true (.one true (.adj [] (.adj [.keep [2], .drop 1] .nil))))))))))))))))))) (.one false (.one false (.one false (.one false (.br (.one true (.one true (.one true (.one true (.one true (.one true (.one true (.one true (.one true (.one true (.one true (.one true (.adj [] (.adj [.keep [2], .drop 1] .nil)))))))))))))) (.one false (.one false (.one false (.one false (.one false (.br (.one true (.one true (.one true (.one true (.one true (.one true (.adj [] (.adj [.keep [2], .drop 1] .nil)))))))) (.one false (.one false (.one false (.one false (.one false (.br (.adj [] (.adj [.keep [2], .drop 1] .nil)) (.adj [] (.adj [] (.adj [.keep [0, 3, 4, 5, 6, 7], .drop 1] .nil))))))))))))))))))))))))))))))))))) (.br (.ex (Int × Bool × Int × Int × Int × Bool × (Option Int)) (fun t270 => (.dr [(1, ⟨none, .no⟩), (2, ⟨none, .no⟩), (9, ⟨none, .no⟩), (0, ⟨none, .no⟩), (3, ⟨none, .no⟩), (4, ⟨none, .no⟩), (5, ⟨none, .no⟩), (6, ⟨none, .no⟩), (7, ⟨none, .no⟩), (8, ⟨none, .no⟩), (10, ⟨none, .call true [] (trace_Resume.R t270)⟩), (11, ⟨none, .no⟩), (12, ⟨none, .no⟩), (13, ⟨none, .no⟩), (14, ⟨none, .no⟩), (15, ⟨none, .no⟩)] (.br (.adj [] (.adj [.keep [2], .drop 1] .nil)) (.br (.one true (.call true [] ((Option Int)) (fun t273 => trace_Check.R t273) (fun t273 => (.br (.one true (.one true (.one true (.one true (.one true (.one true (.one true (.one true (.one true (.one true (.one true (.one true (.one true (.one true (.one true (.one true (.one true (.adj [] (.adj [.keep [2], .drop 1] .nil))))))))))))))))))) (.one false (.one false (.one false (.one false (.br (.one true (.one true (.one true (.one true (.one true (.one true (.one true (.one true (.one true (.one true (.one true (.one true (.adj [] (.adj [.keep [2], .drop 1] .nil)))))))))))))) (.one false (.one false (.one false (.one false (.one false (.br (.one true (.one true (.one true (.one true (.one true (.one true (.adj [] (.adj [.keep [2], .drop 1] .nil)))))))) (.one false (.one false (.one false (.one false (.one false (.br (.adj [] (.adj [.keep [2], .drop 1] .nil)) (.adj [] (.adj [] (.adj [.keep [0, 3, 4, 5, 6, 7], .drop 1] .nil)))))))))))))))))))))))) (.one false (.call true [] ((Option Int)) (fun t278 => trace_Check.R t278) (fun t278 => (.br (.one true (.one true (.one true (.one true (.one true (.one true (.one true (.one true (.one true (.one true (.one true (.one true (.one true (.one true (.one true (.one true (.one true (.adj [] (.adj [.keep [2], .drop 1] .nil))))))))))))))))))) (.one false (.one false (.one false (.one false (.br (.one true (.one true (.one true (.one true (.one true (.one true (.one true (.one true (.one true (.one true (.one true (.one true (.adj [] (.adj [.keep [2], .drop 1] .nil)))))))))))))) (.one false (.one false (.one false (.one false (.one false (.br (.one true (.one true (.one true (.one true (.one true (.one true (.adj [] (.adj [.keep [2], .drop 1] .nil)))))))) (.one false (.one false (.one false (.one false (.one false (.br (.adj [] (.adj [.keep [2], .drop 1] .nil)) (.adj [] (.adj [] (.adj [.keep [0, 3, 4, 5, 6, 7], .drop 1] .nil))))))))))))))))))))))))))))) (.br (.call true [] (Int × Bool × Int × Int × Int × Bool) (fun t284 => trace_Free.R t284) (fun t284 => (.one true (.call true [] ((Option Int)) (fun t285 => trace_Check.R t285) (fun t285 => (.br (.one true (.one true (.one true (.one true (.one true (.one true (.one true (.one true (.one true (.one true (.one true (.one true (.one true (.one true (.one true (.one true (.one true (.adj [] (.adj [.keep [2], .drop 1] .nil))))))))))))))))))) (.one false (.one false (.one false (.one false (.br (.one true (.one true (.one true (.one true (.one true (.one true (.one true (.one true (.one true (.one true (.one true (.one true (.adj [] (.adj [.keep [2], .drop 1] .nil)))))))))))))) (.one false (.one false (.one false (.one false (.one false (.br (.one true (.one true (.one true (.one true (.one true (.one true (.adj [] (.adj [.keep [2], .drop 1] .nil)))))))) (.one false (.one false (.one false (.one false (.one false (.br (.adj [] (.adj [.keep [2], .drop 1] .nil)) (.adj [] (.adj [] (.adj [.keep [0, 3, 4, 5, 6, 7], .drop 1] .nil)))))))))))))))))))))))))) (.call true [] (Int × Int × Bool × Int × Int × Int × Bool) (fun t290 => trace_Take.R t290) (fun t290 => (.one true (.call true [] ((Option Int)) (fun t291 => trace_Check.R t291) (fun t291 => (.br (.one true (.one true (.one true (.one true (.one true (.one true (.one true (.one true (.one true (.one true (.one true (.one true (.one true (.one true (.one true (.one true (.one true (.adj [] (.adj [.keep [2], .drop 1] .nil))))))))))))))))))) (.one false (.one false (.one false (.one false (.br (.one true (.one true (.one true (.one true (.one true (.one true (.one true (.one true (.one true (.one true (.one true (.one true (.adj [] (.adj [.keep [2], .drop 1] .nil)))))))))))))) (.one false (.one false (.one false (.one false (.one false (.br (.one true (.one true (.one true (.one true (.one true (.one true (.adj [] (.adj [.keep [2], .drop 1] .nil)))))))) (.one false (.one false (.one false (.one false (.one false (.br (.adj [] (.adj [.keep [2], .drop 1] .nil)) (.adj [] (.adj [] (.adj [.keep [0, 3, 4, 5, 6, 7], .drop 1] .nil))))))))))))))))))))))))))))))))) (.adj [.keep [], .drop 1] .nil)))) (.one false (.one false (.one false (.adj [.keep [], .drop 1] .nil)))))) (to_goal (q := (True) ∧ (True) ∧ (((decide (x103 < (((List.length a0) : Nat) : Int))) = true → ((decide (x103 < (((List.length a0) : Nat) : Int))) = true ∧ (True) ∧ ((decide (x103 < (((List.length a0) : Nat) : Int))) = true ∧ (((decide (x103 < (60 : Int))) = true → (0 ≤ x103 ∧ x103 < (((List.length a0) : Nat) : Int)) ∧ (True) ∧ (True) ∧ ((31 : Int) ≠ 0) ∧ (True) ∧ (True) ∧ (0 ≤ x103 ∧ x103 < (((List.length a0) : Nat) : Int)) ∧ (True) ∧ (True) ∧ ((2 : Int) ≠ 0) ∧ (True) ∧ (True) ∧ (∃ t210 : Int × Int, (Fun cfg 21 [.one (.sc (.int .i64 (IntKind.wrap .i64 ((2 : Int) + (IntKind.wrap .i64 ((Int.tmod (IntKind.wrap .u64 ((List.getD a0 (Int.toNat x103) ((0 : Int), ((0 : Int), ((0 : Int), (0 : Int))))).2.2.1)) (2 : Int)))))))), .one (.sc (.int .i64 (IntKind.wrap .i64 ((1 : Int) + (IntKind.wrap .i64 ((Int.tmod (IntKind.wrap .u64 ((List.getD a0 (Int.toNat x103) ((0 : Int), ((0 : Int), ((0 : Int), (0 : Int))))).2.2.2)) (31 : Int))))))))] [] (halterref26_Of.R t210) [] ∧ True) ∧ (0 ≤ x103 ∧ x103 < (((List.length a0) : Nat) : Int)) ∧ (True) ∧ (True) ∧ ((6 : Int) ≠ 0) ∧ (True) ∧ (True) ∧ ((((IntKind.wrap .i64 ((Int.tmod (IntKind.wrap .u64 ((List.getD a0 (Int.toNat x103) ((0 : Int), ((0 : Int), ((0 : Int), (0 : Int))))).1)) (6 : Int)))) == (0 : Int)) = true → (∃ t213 : Int × Bool × Int × Int × Int × Bool × (Option Int), (True) ∧ (0 ≤ x103 ∧ x103 < (((List.length a0) : Nat) : Int)) ∧ (True) ∧ (True) ∧ ((99 : Int) ≠ 0) ∧ (True) ∧ (True) ∧ (Fun cfg 6 [.agg [.c (.sc (.int .i64 x94)), .c (.sc (.bool x95)), .c (.sc (.int .u32 x96)), .c (.sc (.int .i64 x97)), .c (.sc (.int .i64 x98)), .c (.sc (.bool x99))], .one (.sc (.int .i64 (IntKind.wrap .i64 ((1 : Int) + (IntKind.wrap .i64 ((Int.tmod (IntKind.wrap .u64 ((List.getD a0 (Int.toNat x103) ((0 : Int), ((0 : Int), ((0 : Int), (0 : Int))))).2.1)) (99 : Int))))))))] [] (trace_Attach.R t213) [] ∧ True) ∧ (True) ∧ (True) ∧ (True) ∧ (((!((Option.isNone t213.2.2.2.2.2.2) == (!x100))) = true → (True ∧ (((True) ∧ (True) ∧ True) ∧ halterlaw27_TraceOnce.l0_Q a0 r .ret ⟨[.any, .any, .v (.one (.sc (.bool false))), .any, .any, .any, .any, .any, .any, .any, .any, .any, .any, .any, .any, .any, .any, .any, .any, .any, .any, .any, .any, .any, .any, .any, .any, .any, .any, .any, .any, .any, .any, .any, .any, .any, .any, .any, .any, .any, .any, .any, .any, .any, .any, .any, .any, .any, .any, .any, .any, .any, .any, .any, .any, .any, .any, .any, .any, .any, .any, .any, .any, .any, .any, .any, .any, .any, .any, .any, .any, .any, .any, .any, .any, .any, .any, .any, .any, .any, .any, .any, .any, .any, .any, .any, .any, .any, .any, .any, .any, .any, .any, .any, .any, .any, .any, .any, .any, .any, .any, .any, .any, .any, .any, .any, .any, .any, .any, .any, .any, .any, .any, .any, .any, .any, .any, .any, .any, .any, .any, .any, .any, .any, .any, .any, .any, .any, .any, .any, .any, .any, .any, .any, .any, .any, .any, .any, .any, .any, .any, .any, .any, .any, .any, .any, .any, .any, .any, .any, .any, .any, .any, .any, .any, .any, .any, .any, .any, .any, .any, .any, .any, .any, .any, .any, .any, .any, .any, .any, .any, .any, .any, .any, .any, .any, .any], [.ex false [.c (.sc (.int .i64 x94)), .c (.sc (.bool x95)), .c (.sc (.int .u32 x96)), .c (.sc (.int .i64 x97)), .c (.sc (.int .i64 x98)), .c (.sc (.bool x99))] 26], 0⟩))) ∧ ((!((Option.isNone t213.2.2.2.2.2.2) == (!x100))) = false → (True) ∧ (((Option.isNone t213.2.2.2.2.2.2) = true → (True) ∧ (True) ∧ (True) ∧ (∃ t216 : (Option Int), (Fun cfg 18 [.agg [.c (.sc (.int .i64 t213.1)), .c (.sc (.bool t213.2.1)), .c (.sc (.int .u32 t213.2.2.1)), .c (.sc (.int .i64 t213.2.2.2.1)), .c (.sc (.int .i64 t213.2.2.2.2.1)), .c (.sc (.bool t213.2.2.2.2.2.1))]] [] (trace_Check.R t216) [] ∧ True) ∧ (True) ∧ (((!(Option.isNone t216)) = false → ((!(Option.isNone t216)) = false ∧ (True) ∧ ((!(Option.isNone t216)) = false ∧ ((!(Option.isNone t216)) = false ∧ (True) ∧ ((!(Option.isNone t216)) = false ∧ (((!(t213.2.1 == x101)) = false → ((!(t213.2.1 == x101)) = false ∧ (True) ∧ ((!(t213.2.1 == x101)) = false ∧ (True) ∧ ((!(t213.2.1 == x101)) = false ∧ ((!(t213.2.1 == x101)) = false ∧ (True) ∧ ((!(t213.2.1 == x101)) = false ∧ (((!((t213.2.2.1 != (0 : Int)) == x102)) = false → ((!((t213.2.2.1 != (0 : Int)) == x102)) = false ∧ (True) ∧ ((!((t213.2.2.1 != (0 : Int)) == x102)) = false ∧ (True) ∧ ((!((t213.2.2.1 != (0 : Int)) == x102)) = false ∧ ((!((t213.2.2.1 != (0 : Int)) == x102)) = false ∧ (True) ∧ ((!((t213.2.2.1 != (0 : Int)) == x102)) = false ∧ (((!((t213.1 != (0 : Int)) == true)) = true → (True ∧ (((True) ∧ (True) ∧ True) ∧ halterlaw27_TraceOnce.l0_Q a0 r .ret ⟨[.any, .any, .v (.one (.sc (.bool false))), .any, .any, .any, .any, .any, .any, .any, .any, .any, .any, .any, .any, .any, .any, .any, .any, .any, .any, .any, .any, .any, .any, .any, .any, .any, .any, .any, .any, .any, .any, .any, .any, .any, .any, .any, .any, .any, .any, .any, .any, .any, .any, .any, .any, .any, .any, .any, .any, .any, .any, .any, .any, .any, .any, .any, .any, .any, .any, .any, .any, .any, .any, .any, .any, .any, .any, .any, .any, .any, .any, .any, .any, .any, .any, .any, .any, .any, .any, .any, .any, .any, .any, .any, .any, .any, .any, .any, .any, .any, .any, .any, .any, .any, .any, .any, .any, .any, .any, .any, .any, .any, .any, .any, .any, .any, .any, .any, .any, .any, .any, .any, .any, .any, .any, .any, .any, .any, .any, .any, .any, .any, .any, .any, .any, .any, .any, .any, .any, .any, .any, .any, .any, .any, .any, .any, .any, .any, .any, .any, .any, .any, .any, .any, .any, .any, .any, .any, .any, .any, .any, .any, .any, .any, .any, .any, .any, .any, .any, .any, .any, .any, .any, .any, .any, .any, .any, .any, .any, .any, .any, .any, .any, .any, .any], [.ex false [.c (.sc (.int .i64 t213.1)), .c (.sc (.bool t213.2.1)), .c (.sc (.int .u32 t213.2.2.1)), .c (.sc (.int .i64 t213.2.2.2.1)), .c (.sc (.int .i64 t213.2.2.2.2.1)), .c (.sc (.bool t213.2.2.2.2.2.1))] 26], 0⟩))) ∧ ((!((t213.1 != (0 : Int)) == true)) = false → (True ∧ (True ∧ (True) ∧ (((True) ∧ (True) ∧ True) ∧ TripN cfg (cpath (Tryd.f4.body.getD .skip) [1, 1, 1, 0, 1, 0, 0]) n (halterlaw27_TraceOnce.l0_S a0 t213.1 t213.2.1 t213.2.2.1 t213.2.2.2.1 t213.2.2.2.2.1 t213.2.2.2.2.2.1 true x101 x102 (IntKind.wrap .i64 (x103 + (1 : Int)))) (halterlaw27_TraceOnce.l0_Q a0 r)))))))))))) ∧ ((!((t213.2.2.1 != (0 : Int)) == x102)) = true → ((!((t213.2.2.1 != (0 : Int)) == x102)) = true ∧ ((!((t213.2.2.1 != (0 : Int)) == x102)) = true ∧ ((!((t213.2.2.1 != (0 : Int)) == x102)) = true ∧ ((!((t213.2.2.1 != (0 : Int)) == x102)) = true ∧ ((!((t213.2.2.1 != (0 : Int)) == x102)) = true ∧ (true = true ∧ (True ∧ (((True) ∧ (True) ∧ True) ∧ halterlaw27_TraceOnce.l0_Q a0 r .ret ⟨[.any, .any, .v (.one (.sc (.bool false))), .any, .any, .any, .any, .any, .any, .any, .any, .any, .any, .any, .any, .any, .any, .any, .any, .any, .any, .any, .any, .any, .any, .any, .any, .any, .any, .any, .any, .any, .any, .any, .any, .any, .any, .any, .any, .any, .any, .any, .any, .any, .any, .any, .any, .any, .any, .any, .any, .any, .any, .any, .any, .any, .any, .any, .any, .any, .any, .any, .any, .any, .any, .any, .any, .any, .any, .any, .any, .any, .any, .any, .any, .any, .any, .any, .any, .any, .any, .any, .any, .any, .any, .any, .any, .any, .any, .any, .any, .any, .any, .any, .any, .any, .any, .any, .any, .any, .any, .any, .any, .any, .any, .any, .any, .any, .any, .any, .any, .any, .any, .any, .any, .any, .any, .any, .any, .any, .any, .any, .any, .any, .any, .any, .any, .any, .any, .any, .any, .any, .any, .any, .any, .any, .any, .any, .any, .any, .any, .any, .any, .any, .any, .any, .any, .any, .any, .any, .any, .any, .any, .any, .any, .any, .any, .any, .any, .any, .any, .any, .any, .any, .any, .any, .any, .any, .any, .any, .any, .any, .any, .any, .any, .any, .any], [.ex false [.c (.sc (.int .i64 t213.1)), .c (.sc (.bool t213.2.1)), .c (.sc (.int .u32 t213.2.2.1)), .c (.sc (.int .i64 t213.2.2.2.1)), .c (.sc (.int .i64 t213.2.2.2.2.1)), .c (.sc (.bool t213.2.2.2.2.2.1))] 26], 0⟩)))))))))))))))) ∧ ((!(t213.2.1 == x101)) = true → ((!(t213.2.1 == x101)) = true ∧ ((!(t213.2.1 == x101)) = true ∧ ((!(t213.2.1 == x101)) = true ∧ ((!(t213.2.1 == x101)) = true ∧ ((!(t213.2.1 == x101)) = true ∧ (true = true ∧ (true = true ∧ (true = true ∧ (true = true ∧ (true = true ∧ (true = true ∧ (true = true ∧ (True ∧ (((True) ∧ (True) ∧ True) ∧ halterlaw27_TraceOnce.l0_Q a0 r .ret ⟨[.any, .any, .v (.one (.sc (.bool false))), .any, .any, .any, .any, .any, .any, .any, .any, .any, .any, .any, .any, .any, .any, .any, .any, .any, .any, .any, .any, .any, .any, .any, .any, .any, .any, .any, .any, .any, .any, .any, .any, .any, .any, .any, .any, .any, .any, .any, .any, .any, .any, .any, .any, .any, .any, .any, .any, .any, .any, .any, .any, .any, .any, .any, .any, .any, .any, .any, .any, .any, .any, .any, .any, .any, .any, .any, .any, .any, .any, .any, .any, .any, .any, .any, .any, .any, .any, .any, .any, .any, .any, .any, .any, .any, .any, .any, .any, .any, .any, .any, .any, .any, .any, .any, .any, .any, .any, .any, .any, .any, .any, .any, .any, .any, .any, .any, .any, .any, .any, .any, .any, .any, .any, .any, .any, .any, .any, .any, .any, .any, .any, .any, .any, .any, .any, .any, .any, .any, .any, .any, .any, .any, .any, .any, .any, .any, .any, .any, .any, .any, .any, .any, .any, .any, .any, .any, .any, .any, .any, .any, .any, .any, .any, .any, .any, .any, .any, .any, .any, .any, .any, .any, .any, .any, .any, .any, .any, .any, .any, .any, .any, .any, .any], [.ex false [.c (.sc (.int .i64 t213.1)), .c (.sc (.bool t213.2.1)), .c (.sc (.int .u32 t213.2.2.1)), .c (.sc (.int .i64 t213.2.2.2.1)), .c (.sc (.int .i64 t213.2.2.2.2.1)), .c (.sc (.bool t213.2.2.2.2.2.1))] 26], 0⟩))))))))))))))))))))) ∧ ((!(Option.isNone t216)) = true → ((!(Option.isNone t216)) = true ∧ ((!(Option.isNone t216)) = true ∧ ((!(Option.isNone t216)) = true ∧ ((!(Option.isNone t216)) = true ∧ (true = true ∧ (true = true ∧ (true = true ∧ (true = true ∧ (true = true ∧ (true = true ∧ (true = true ∧ (true = true ∧ (true = true ∧ (true = true ∧ (true = true ∧ (true = true ∧ (true = true ∧ (True ∧ (((True) ∧ (True) ∧ True) ∧ halterlaw27_TraceOnce.l0_Q a0 r .ret ⟨[.any, .any, .v (.one (.sc (.bool false))), .any, .any, .any, .any, .any, .any, .any, .any, .any, .any, .any, .any, .any, .any, .any, .any, .any, .any, .any, .any, .any, .any, .any, .any, .any, .any, .any, .any, .any, .any, .any, .any, .any, .any, .any, .any, .any, .any, .any, .any, .any, .any, .any, .any, .any, .any, .any, .any, .any, .any, .any, .any, .any, .any, .any, .any, .any, .any, .any, .any, .any, .any, .any, .any, .any, .any, .any, .any, .any, .any, .any, .any, .any, .any, .any, .any, .any, .any, .any, .any, .any, .any, .any, .any, .any, .any, .any, .any, .any, .any, .any, .any, .any, .any, .any, .any, .any, .any, .any, .any, .any, .any, .any, .any, .any, .any, .any, .any, .any, .any, .any, .any, .any, .any, .any, .any, .any, .any, .any, .any, .any, .any, .any, .any, .any, .any, .any, .any, .any, .any, .any, .any, .any, .any, .any, .any, .any, .any, .any, .any, .any, .any, .any, .any, .any, .any, .any, .any, .any, .any, .any, .any, .any, .any, .any, .any, .any, .any, .any, .any, .any, .any, .any, .any, .any, .any, .any, .any, .any, .any, .any, .any, .any, .any], [.ex false [.c (.sc (.int .i64 t213.1)), .c (.sc (.bool t213.2.1)), .c (.sc (.int .u32 t213.2.2.1)), .c (.sc (.int .i64 t213.2.2.2.1)), .c (.sc (.int .i64 t213.2.2.2.2.1)), .c (.sc (.bool t213.2.2.2.2.2.1))] 26], 0⟩))))))))))))))))))))))) ∧ ((Option.isNone t213.2.2.2.2.2.2) = false → (True) ∧ (∃ t221 : (Option Int), (Fun cfg 18 [.agg [.c (.sc (.int .i64 x94)), .c (.sc (.bool x95)), .c (.sc (.int .u32 x96)), .c (.sc (.int .i64 x97)), .c (.sc (.int .i64 x98)), .c (.sc (.bool x99))]] [] (trace_Check.R t221) [] ∧ True) ∧ (True) ∧ (((!(Option.isNone t221)) = false → ((!(Option.isNone t221)) = false ∧ (True) ∧ ((!(Option.isNone t221)) = false ∧ ((!(Option.isNone t221)) = false ∧ (True) ∧ ((!(Option.isNone t221)) = false ∧ (((!(x95 == x101)) = false → ((!(x95 == x101)) = false ∧ (True) ∧ ((!(x95 == x101)) = false ∧ (True) ∧ ((!(x95 == x101)) = false ∧ ((!(x95 == x101)) = false ∧ (True) ∧ ((!(x95 == x101)) = false ∧ (((!((x96 != (0 : Int)) == x102)) = false → ((!((x96 != (0 : Int)) == x102)) = false ∧ (True) ∧ ((!((x96 != (0 : Int)) == x102)) = false ∧ (True) ∧ ((!((x96 != (0 : Int)) == x102)) = false ∧ ((!((x96 != (0 : Int)) == x102)) = false ∧ (True) ∧ ((!((x96 != (0 : Int)) == x102)) = false ∧ (((!((x94 != (0 : Int)) == true)) = true → (True ∧ (((True) ∧ (True) ∧ True) ∧ halterlaw27_TraceOnce.l0_Q a0 r .ret ⟨[.any, .any, .v (.one (.sc (.bool false))), .any, .any, .any, .any, .any, .any, .any, .any, .any, .any, .any, .any, .any, .any, .any, .any, .any, .any, .any, .any, .any, .any, .any, .any, .any, .any, .any, .any, .any, .any, .any, .any, .any, .any, .any, .any, .any, .any, .any, .any, .any, .any, .any, .any, .any, .any, .any, .any, .any, .any, .any, .any, .any, .any, .any, .any, .any, .any, .any, .any, .any, .any, .any, .any, .any, .any, .any, .any, .any, .any, .any, .any, .any, .any, .any, .any, .any, .any, .any, .any, .any, .any, .any, .any, .any, .any, .any, .any, .any, .any, .any, .any, .any, .any, .any, .any, .any, .any, .any, .any, .any, .any, .any, .any, .any, .any, .any, .any, .any, .any, .any, .any, .any, .any, .any, .any, .any, .any, .any, .any, .any, .any, .any, .any, .any, .any, .any, .any, .any, .any, .any, .any, .any, .any, .any, .any, .any, .any, .any, .any, .any, .any, .any, .any, .any, .any, .any, .any, .any, .any, .any, .any, .any, .any, .any, .any, .any, .any, .any, .any, .any, .any, .any, .any, .any, .any, .any, .any, .any, .any, .any, .any, .any, .any], [.ex false [.c (.sc (.int .i64 x94)), .c (.sc (.bool x95)), .c (.sc (.int .u32 x96)), .c (.sc (.int .i64 x97)), .c (.sc (.int .i64 x98)), .c (.sc (.bool x99))] 26], 0⟩))) ∧ ((!((x94 != (0 : Int)) == true)) = false → (True ∧ (True ∧ (True) ∧ (((True) ∧ (True) ∧ True) ∧ TripN cfg (cpath (Tryd.f4.body.getD .skip) [1, 1, 1, 0, 1, 0, 0]) n (halterlaw27_TraceOnce.l0_S a0 x94 x95 x96 x97 x98 x99 true x101 x102 (IntKind.wrap .i64 (x103 + (1 : Int)))) (halterlaw27_TraceOnce.l0_Q a0 r)))))))))))) ∧ ((!((x96 != (0 : Int)) == x102)) = true → ((!((x96 != (0 : Int)) == x102)) = true ∧ ((!((x96 != (0 : Int)) == x102)) = true ∧ ((!((x96 != (0 : Int)) == x102)) = true ∧ ((!((x96 != (0 : Int)) == x102)) = true ∧ ((!((x96 != (0 : Int)) == x102)) = true ∧ (true = true ∧ (True ∧ (((True) ∧ (True) ∧ True) ∧ halterlaw27_TraceOnce.l0_Q a0 r .ret ⟨[.any, .any, .v (.one (.sc (.bool false))), .any, .any, .any, .any, .any, .any, .any, .any, .any, .any, .any, .any, .any, .any, .any, .any, .any, .any, .any, .any, .any, .any, .any, .any, .any, .any, .any, .any, .any, .any, .any, .any, .any, .any, .any, .any, .any, .any, .any, .any, .any, .any, .any, .any, .any, .any, .any, .any, .any, .any, .any, .any, .any, .any, .any, .any, .any, .any, .any, .any, .any, .any, .any, .any, .any, .any, .any, .any, .any, .any, .any, .any, .any, .any, .any, .any, .any, .any, .any, .any, .any, .any, .any, .any, .any, .any, .any, .any, .any, .any, .any, .any, .any, .any, .any, .any, .any, .any, .any, .any, .any, .any, .any, .any, .any, .any, .any, .any, .any, .any, .any, .any, .any, .any, .any, .any, .any, .any, .any, .any, .any, .any, .any, .any, .any, .any, .any, .any, .any, .any, .any, .any, .any, .any, .any, .any, .any, .any, .any, .any, .any, .any, .any, .any, .any, .any, .any, .any, .any, .any, .any, .any, .any, .any, .any, .any, .any, .any, .any, .any, .any, .any, .any, .any, .any, .any, .any, .any, .any, .any, .any, .any, .any, .any], [.ex false [.c (.sc (.int .i64 x94)), .c (.sc (.bool x95)), .c (.sc (.int .u32 x96)), .c (.sc (.int .i64 x97)), .c (.sc (.int .i64 x98)), .c (.sc (.bool x99))] 26], 0⟩)))))))))))))))) ∧ ((!(x95 == x101)) = true → ((!(x95 == x101)) = true ∧ ((!(x95 == x101)) = true ∧ ((!(x95 == x101)) = true ∧ ((!(x95 == x101)) = true ∧ ((!(x95 == x101)) = true ∧ (true = true ∧ (true = true ∧ (true = true ∧ (true = true ∧ (true = true ∧ (true = true ∧ (true = true ∧ (True ∧ (((True) ∧ (True) ∧ True) ∧ halterlaw27_TraceOnce.l0_Q a0 r .ret ⟨[.any, .any, .v (.one (.sc (.bool false))), .any, .any, .any, .any, .any, .any, .any, .any, .any, .any, .any, .any, .any, .any, .any, .any, .any, .any, .any, .any, .any, .any, .any, .any, .any, .any, .any, .any, .any, .any, .any, .any, .any, .any, .any, .any, .any, .any, .any, .any, .any, .any, .any, .any, .any, .any, .any, .any, .any, .any, .any, .any, .any, .any, .any, .any, .any, .any, .any, .any, .any, .any, .any, .any, .any, .any, .any, .any, .any, .any, .any, .any, .any, .any, .any, .any, .any, .any, .any, .any, .any, .any, .any, .any, .any, .any, .any, .any, .any, .any, .any, .any, .any, .any, .any, .any, .any, .any, .any, .any, .any, .any, .any, .any, .any, .any, .any, .any, .any, .any, .any, .any, .any, .any, .any, .any, .any, .any, .any, .any, .any, .any, .any, .any, .any, .any, .any, .any, .any, .any, .any, .any, .any, .any, .any, .any, .any, .any, .any, .any, .any, .any, .any, .any, .any, .any, .any, .any, .any, .any, .any, .any, .any, .any, .any, .any, .any, .any, .any, .any, .any, .any, .any, .any, .any, .any, .any, .any, .any, .any, .any, .any, .any, .any], [.ex false [.c (.sc (.int .i64 x94)), .c (.sc (.bool x95)), .c (.sc (.int .u32 x96)), .c (.sc (.int .i64 x97)), .c (.sc (.int .i64 x98)), .c (.sc (.bool x99))] 26], 0⟩))))))))))))))))))))) ∧ ((!(Option.isNone t221)) = true → ((!(Option.isNone t221)) = true ∧ ((!(Option.isNone t221)) = true ∧ ((!(Option.isNone t221)) = true ∧ ((!(Option.isNone t221)) = true ∧ (true = true ∧ (true = true ∧ (true = true ∧ (true = true ∧ (true = true ∧ (true = true ∧ (true = true ∧ (true = true ∧ (true = true ∧ (true = true ∧ (true = true ∧ (true = true ∧ (true = true ∧ (True ∧ (((True) ∧ (True) ∧ True) ∧ halterlaw27_TraceOnce.l0_Q a0 r .ret ⟨[.any, .any, .v (.one (.sc (.bool false))), .any, .any, .any, .any, .any, .any, .any, .any, .any, .any, .any, .any, .any, .any, .any, .any, .any, .any, .any, .any, .any, .any, .any, .any, .any, .any, .any, .any, .any, .any, .any, .any, .any, .any, .any, .any, .any, .any, .any, .any, .any, .any, .any, .any, .any, .any, .any, .any, .any, .any, .any, .any, .any, .any, .any, .any, .any, .any, .any, .any, .any, .any, .any, .any, .any, .any, .any, .any, .any, .any, .any, .any, .any, .any, .any, .any, .any, .any, .any, .any, .any, .any, .any, .any, .any, .any, .any, .any, .any, .any, .any, .any, .any, .any, .any, .any, .any, .any, .any, .any, .any, .any, .any, .any, .any, .any, .any, .any, .any, .any, .any, .any, .any, .any, .any, .any, .any, .any, .any, .any, .any, .any, .any, .any, .any, .any, .any, .any, .any, .any, .any, .any, .any, .any, .any, .any, .any, .any, .any, .any, .any, .any, .any, .any, .any, .any, .any, .any, .any, .any, .any, .any, .any, .any, .any, .any, .any, .any, .any, .any, .any, .any, .any, .any, .any, .any, .any, .any, .any, .any, .any, .any, .any, .any], [.ex false [.c (.sc (.int .i64 x94)), .c (.sc (.bool x95)), .c (.sc (.int .u32 x96)), .c (.sc (.int .i64 x97)), .c (.sc (.int .i64 x98)), .c (.sc (.bool x99))] 26], 0⟩)))))))))))))))))))))))))))) ∧ (((IntKind.wrap .i64 ((Int.tmod (IntKind.wrap .u64 ((List.getD a0 (Int.toNat x103) ((0 : Int), ((0 : Int), ((0 : Int), (0 : Int))))).1)) (6 : Int)))) == (0 : Int)) = false → (True) ∧ ((((IntKind.wrap .i64 ((Int.tmod (IntKind.wrap .u64 ((List.getD a0 (Int.toNat x103) ((0 : Int), ((0 : Int), ((0 : Int), (0 : Int))))).1)) (6 : Int)))) == (1 : Int)) = true → (True) ∧ (∃ t227 : Int × Bool × Int × Int × Int × Bool × (Option Int), (Fun cfg 8 [.agg [.c (.sc (.int .i64 x94)), .c (.sc (.bool x95)), .c (.sc (.int .u32 x96)), .c (.sc (.int .i64 x97)), .c (.sc (.int .i64 x98)), .c (.sc (.bool x99))], .one (.sc (.int .u32 t210.1)), .one (.sc (.bool false))] [] (trace_Stop.R t227) [] ∧ True) ∧ (True) ∧ (True) ∧ ((x100 = true → (x100 = true ∧ (x100 = true ∧ (True) ∧ (((!((Option.isNone t227.2.2.2.2.2.2) == (!x101))) = true → (True ∧ (((True) ∧ (True) ∧ True) ∧ halterlaw27_TraceOnce.l0_Q a0 r .ret ⟨[.any, .any, .v (.one (.sc (.bool false))), .any, .any, .any, .any, .any, .any, .any, .any, .any, .any, .any, .any, .any, .any, .any, .any, .any, .any, .any, .any, .any, .any, .any, .any, .any, .any, .any, .any, .any, .any, .any, .any, .any, .any, .any, .any, .any, .any, .any, .any, .any, .any, .any, .any, .any, .any, .any, .any, .any, .any, .any, .any, .any, .any, .any, .any, .any, .any, .any, .any, .any, .any, .any, .any, .any, .any, .any, .any, .any, .any, .any, .any, .any, .any, .any, .any, .any, .any, .any, .any, .any, .any, .any, .any, .any, .any, .any, .any, .any, .any, .any, .any, .any, .any, .any, .any, .any, .any, .any, .any, .any, .any, .any, .any, .any, .any, .any, .any, .any, .any, .any, .any, .any, .any, .any, .any, .any, .any, .any, .any, .any, .any, .any, .any, .any, .any, .any, .any, .any, .any, .any, .any, .any, .any, .any, .any, .any, .any, .any, .any, .any, .any, .any, .any, .any, .any, .any, .any, .any, .any, .any, .any, .any, .any, .any, .any, .any, .any, .any, .any, .any, .any, .any, .any, .any, .any, .any, .any, .any, .any, .any, .any, .any, .any], [.ex false [.c (.sc (.int .i64 x94)), .c (.sc (.bool x95)), .c (.sc (.int .u32 x96)), .c (.sc (.int .i64 x97)), .c (.sc (.int .i64 x98)), .c (.sc (.bool x99))] 26], 0⟩))) ∧ ((!((Option.isNone t227.2.2.2.2.2.2) == (!x101))) = false → (True) ∧ (((Option.isNone t227.2.2.2.2.2.2) = true → (True) ∧ ((Option.isNone t227.2.2.2.2.2.2) = true ∧ (True) ∧ (True) ∧ (True) ∧ (∃ t231 : (Option Int), (Fun cfg 18 [.agg [.c (.sc (.int .i64 t227.1)), .c (.sc (.bool t227.2.1)), .c (.sc (.int .u32 t227.2.2.1)), .c (.sc (.int .i64 t227.2.2.2.1)), .c (.sc (.int .i64 t227.2.2.2.2.1)), .c (.sc (.bool t227.2.2.2.2.2.1))]] [] (trace_Check.R t231) [] ∧ True) ∧ (True) ∧ (((!(Option.isNone t231)) = false → ((!(Option.isNone t231)) = false ∧ (True) ∧ ((!(Option.isNone t231)) = false ∧ ((!(Option.isNone t231)) = false ∧ (True) ∧ ((!(Option.isNone t231)) = false ∧ (((!(t227.2.1 == true)) = false → ((!(t227.2.1 == true)) = false ∧ (True) ∧ ((!(t227.2.1 == true)) = false ∧ (True) ∧ ((!(t227.2.1 == true)) = false ∧ ((!(t227.2.1 == true)) = false ∧ (True) ∧ ((!(t227.2.1 == true)) = false ∧ (((!((t227.2.2.1 != (0 : Int)) == true)) = false → ((!((t227.2.2.1 != (0 : Int)) == true)) = false ∧ (True) ∧ ((!((t227.2.2.1 != (0 : Int)) == true)) = false ∧ (True) ∧ ((!((t227.2.2.1 != (0 : Int)) == true)) = false ∧ ((!((t227.2.2.1 != (0 : Int)) == true)) = false ∧ (True) ∧ ((!((t227.2.2.1 != (0 : Int)) == true)) = false ∧ (((!((t227.1 != (0 : Int)) == x100)) = true → (True ∧ (((True) ∧ (True) ∧ True) ∧ halterlaw27_TraceOnce.l0_Q a0 r .ret ⟨[.any, .any, .v (.one (.sc (.bool false))), .any, .any, .any, .any, .any, .any, .any, .any, .any, .any, .any, .any, .any, .any, .any, .any, .any, .any, .any, .any, .any, .any, .any, .any, .any, .any, .any, .any, .any, .any, .any, .any, .any, .any, .any, .any, .any, .any, .any, .any, .any, .any, .any, .any, .any, .any, .any, .any, .any, .any, .any, .any, .any, .any, .any, .any, .any, .any, .any, .any, .any, .any, .any, .any, .any, .any, .any, .any, .any, .any, .any, .any, .any, .any, .any, .any, .any, .any, .any, .any, .any, .any, .any, .any, .any, .any, .any, .any, .any, .any, .any, .any, .any, .any, .any, .any, .any, .any, .any, .any, .any, .any, .any, .any, .any, .any, .any, .any, .any, .any, .any, .any, .any, .any, .any, .any, .any, .any, .any, .any, .any, .any, .any, .any, .any, .any, .any, .any, .any, .any, .any, .any, .any, .any, .any, .any, .any, .any, .any, .any, .any, .any, .any, .any, .any, .any, .any, .any, .any, .any, .any, .any, .any, .any, .any, .any, .any, .any, .any, .any, .any, .any, .any, .any, .any, .any, .any, .any, .any, .any, .any, .any, .any, .any], [.ex false [.c (.sc (.int .i64 t227.1)), .c (.sc (.bool t227.2.1)), .c (.sc (.int .u32 t227.2.2.1)), .c (.sc (.int .i64 t227.2.2.2.1)), .c (.sc (.int .i64 t227.2.2.2.2.1)), .c (.sc (.bool t227.2.2.2.2.2.1))] 26], 0⟩))) ∧ ((!((t227.1 != (0 : Int)) == x100)) = false → (True ∧ (True ∧ (True) ∧ (((True) ∧ (True) ∧ True) ∧ TripN cfg (cpath (Tryd.f4.body.getD .skip) [1, 1, 1, 0, 1, 0, 0]) n (halterlaw27_TraceOnce.l0_S a0 t227.1 t227.2.1 t227.2.2.1 t227.2.2.2.1 t227.2.2.2.2.1 t227.2.2.2.2.2.1 x100 true true (IntKind.wrap .i64 (x103 + (1 : Int)))) (halterlaw27_TraceOnce.l0_Q a0 r)))))))))))) ∧ ((!((t227.2.2.1 != (0 : Int)) == true)) = true → ((!((t227.2.2.1 != (0 : Int)) == true)) = true ∧ ((!((t227.2.2.1 != (0 : Int)) == true)) = true ∧ ((!((t227.2.2.1 != (0 : Int)) == true)) = true ∧ ((!((t227.2.2.1 != (0 : Int)) == true)) = true ∧ ((!((t227.2.2.1 != (0 : Int)) == true)) = true ∧ (true = true ∧ (True ∧ (((True) ∧ (True) ∧ True) ∧ halterlaw27_TraceOnce.l0_Q a0 r .ret ⟨[.any, .any, .v (.one (.sc (.bool false))), .any, .any, .any, .any, .any, .any, .any, .any, .any, .any, .any, .any, .any, .any, .any, .any, .any, .any, .any, .any, .any, .any, .any, .any, .any, .any, .any, .any, .any, .any, .any, .any, .any, .any, .any, .any, .any, .any, .any, .any, .any, .any, .any, .any, .any, .any, .any, .any, .any, .any, .any, .any, .any, .any, .any, .any, .any, .any, .any, .any, .any, .any, .any, .any, .any, .any, .any, .any, .any, .any, .any, .any, .any, .any, .any, .any, .any, .any, .any, .any, .any, .any, .any, .any, .any, .any, .any, .any, .any, .any, .any, .any, .any, .any, .any, .any, .any, .any, .any, .any, .any, .any, .any, .any, .any, .any, .any, .any, .any, .any, .any, .any, .any, .any, .any, .any, .any, .any, .any, .any, .any, .any, .any, .any, .any, .any, .any, .any, .any, .any, .any, .any, .any, .any, .any, .any, .any, .any, .any, .any, .any, .any, .any, .any, .any, .any, .any, .any, .any, .any, .any, .any, .any, .any, .any, .any, .any, .any, .any, .any, .any, .any, .any, .any, .any, .any, .any, .any, .any, .any, .any, .any, .any, .any], [.ex false [.c (.sc (.int .i64 t227.1)), .c (.sc (.bool t227.2.1)), .c (.sc (.int .u32 t227.2.2.1)), .c (.sc (.int .i64 t227.2.2.2.1)), .c (.sc (.int .i64 t227.2.2.2.2.1)), .c (.sc (.bool t227.2.2.2.2.2.1))] 26], 0⟩)))))))))))))))) ∧ ((!(t227.2.1 == true)) = true → ((!(t227.2.1 == true)) = true ∧ ((!(t227.2.1 == true)) = true ∧ ((!(t227.2.1 == true)) = true ∧ ((!(t227.2.1 == true)) = true ∧ ((!(t227.2.1 == true)) = true ∧ (true = true ∧ (true = true ∧ (true = true ∧ (true = true ∧ (true = true ∧ (true = true ∧ (true = true ∧ (True ∧ (((True) ∧ (True) ∧ True) ∧ halterlaw27_TraceOnce.l0_Q a0 r .ret ⟨[.any, .any, .v (.one (.sc (.bool false))), .any, .any, .any, .any, .any, .any, .any, .any, .any, .any, .any, .any, .any, .any, .any, .any, .any, .any, .any, .any, .any, .any, .any, .any, .any, .any, .any, .any, .any, .any, .any, .any, .any, .any, .any, .any, .any, .any, .any, .any, .any, .any, .any, .any, .any, .any, .any, .any, .any, .any, .any, .any, .any, .any, .any, .any, .any, .any, .any, .any, .any, .any, .any, .any, .any, .any, .any, .any, .any, .any, .any, .any, .any, .any, .any, .any, .any, .any, .any, .any, .any, .any, .any, .any, .any, .any, .any, .any, .any, .any, .any, .any, .any, .any, .any, .any, .any, .any, .any, .any, .any, .any, .any, .any, .any, .any, .any, .any, .any, .any, .any, .any, .any, .any, .any, .any, .any, .any, .any, .any, .any, .any, .any, .any, .any, .any, .any, .any, .any, .any, .any, .any, .any, .any, .any, .any, .any, .any, .any, .any, .any, .any, .any, .any, .any, .any, .any, .any, .any, .any, .any, .any, .any, .any, .any, .any, .any, .any, .any, .any, .any, .any, .any, .any, .any, .any, .any, .any, .any, .any, .any, .any, .any, .any], [.ex false [.c (.sc (.int .i64 t227.1)), .c (.sc (.bool t227.2.1)), .c (.sc (.int .u32 t227.2.2.1)), .c (.sc (.int .i64 t227.2.2.2.1)), .c (.sc (.int .i64 t227.2.2.2.2.1)), .c (.sc (.bool t227.2.2.2.2.2.1))] 26], 0⟩))))))))))))))))))))) ∧ ((!(Option.isNone t231)) = true → ((!(Option.isNone t231)) = true ∧ ((!(Option.isNone t231)) = true ∧ ((!(Option.isNone t231)) = true ∧ ((!(Option.isNone t231)) = true ∧ (true = true ∧ (true = true ∧ (true = true ∧ (true = true ∧ (true = true ∧ (true = true ∧ (true = true ∧ (true = true ∧ (true = true ∧ (true = true ∧ (true = true ∧ (true = true ∧ (true = true ∧ (True ∧ (((True) ∧ (True) ∧ True) ∧ halterlaw27_TraceOnce.l0_Q a0 r .ret ⟨[.any, .any, .v (.one (.sc (.bool false))), .any, .any, .any, .any, .any, .any, .any, .any, .any, .any, .any, .any, .any, .any, .any, .any, .any, .any, .any, .any, .any, .any, .any, .any, .any, .any, .any, .any, .any, .any, .any, .any, .any, .any, .any, .any, .any, .any, .any, .any, .any, .any, .any, .any, .any, .any, .any, .any, .any, .any, .any, .any, .any, .any, .any, .any, .any, .any, .any, .any, .any, .any, .any, .any, .any, .any, .any, .any, .any, .any, .any, .any, .any, .any, .any, .any, .any, .any, .any, .any, .any, .any, .any, .any, .any, .any, .any, .any, .any, .any, .any, .any, .any, .any, .any, .any, .any, .any, .any, .any, .any, .any, .any, .any, .any, .any, .any, .any, .any, .any, .any, .any, .any, .any, .any, .any, .any, .any, .any, .any, .any, .any, .any, .any, .any, .any, .any, .any, .any, .any, .any, .any, .any, .any, .any, .any, .any, .any, .any, .any, .any, .any, .any, .any, .any, .any, .any, .any, .any, .any, .any, .any, .any, .any, .any, .any, .any, .any, .any, .any, .any, .any, .any, .any, .any, .any, .any, .any, .any, .any, .any, .any, .any, .any], [.ex false [.c (.sc (.int .i64 t227.1)), .c (.sc (.bool t227.2.1)), .c (.sc (.int .u32 t227.2.2.1)), .c (.sc (.int .i64 t227.2.2.2.1)), .c (.sc (.int .i64 t227.2.2.2.2.1)), .c (.sc (.bool t227.2.2.2.2.2.1))] 26], 0⟩)))))))))))))))))))))))) ∧ ((Option.isNone t227.2.2.2.2.2.2) = false → (True) ∧ ((Option.isNone t227.2.2.2.2.2.2) = false ∧ (True) ∧ (∃ t236 : (Option Int), (Fun cfg 18 [.agg [.c (.sc (.int .i64 x94)), .c (.sc (.bool x95)), .c (.sc (.int .u32 x96)), .c (.sc (.int .i64 x97)), .c (.sc (.int .i64 x98)), .c (.sc (.bool x99))]] [] (trace_Check.R t236) [] ∧ True) ∧ (True) ∧ (((!(Option.isNone t236)) = false → ((!(Option.isNone t236)) = false ∧ (True) ∧ ((!(Option.isNone t236)) = false ∧ ((!(Option.isNone t236)) = false ∧ (True) ∧ ((!(Option.isNone t236)) = false ∧ (((!(x95 == x101)) = false → ((!(x95 == x101)) = false ∧ (True) ∧ ((!(x95 == x101)) = false ∧ (True) ∧ ((!(x95 == x101)) = false ∧ ((!(x95 == x101)) = false ∧ (True) ∧ ((!(x95 == x101)) = false ∧ (((!((x96 != (0 : Int)) == x102)) = false → ((!((x96 != (0 : Int)) == x102)) = false ∧ (True) ∧ ((!((x96 != (0 : Int)) == x102)) = false ∧ (True) ∧ ((!((x96 != (0 : Int)) == x102)) = false ∧ ((!((x96 != (0 : Int)) == x102)) = false ∧ (True) ∧ ((!((x96 != (0 : Int)) == x102)) = false ∧ (((!((x94 != (0 : Int)) == x100)) = true → (True ∧ (((True) ∧ (True) ∧ True) ∧ halterlaw27_TraceOnce.l0_Q a0 r .ret ⟨[.any, .any, .v (.one (.sc (.bool false))), .any, .any, .any, .any, .any, .any, .any, .any, .any, .any, .any, .any, .any, .any, .any, .any, .any, .any, .any, .any, .any, .any, .any, .any, .any, .any, .any, .any, .any, .any, .any, .any, .any, .any, .any, .any, .any, .any, .any, .any, .any, .any, .any, .any, .any, .any, .any, .any, .any, .any, .any, .any, .any, .any, .any, .any, .any, .any, .any, .any, .any, .any, .any, .any, .any, .any, .any, .any, .any, .any, .any, .any, .any, .any, .any, .any, .any, .any, .any, .any, .any, .any, .any, .any, .any, .any, .any, .any, .any, .any, .any, .any, .any, .any, .any, .any, .any, .any, .any, .any, .any, .any, .any, .any, .any, .any, .any, .any, .any, .any, .any, .any, .any, .any, .any, .any, .any, .any, .any, .any, .any, .any, .any, .any, .any, .any, .any, .any, .any, .any, .any, .any, .any, .any, .any, .any, .any, .any, .any, .any, .any, .any, .any, .any, .any, .any, .any, .any, .any, .any, .any, .any, .any, .any, .any, .any, .any, .any, .any, .any, .any, .any, .any, .any, .any, .any, .any, .any, .any, .any, .any, .any, .any, .any], [.ex false [.c (.sc (.int .i64 x94)), .c (.sc (.bool x95)), .c (.sc (.int .u32 x96)), .c (.sc (.int .i64 x97)), .c (.sc (.int .i64 x98)), .c (.sc (.bool x99))] 26], 0⟩))) ∧ ((!((x94 != (0 : Int)) == x100)) = false → (True ∧ (True ∧ (True) ∧ (((True) ∧ (True) ∧ True) ∧ TripN cfg (cpath (Tryd.f4.body.getD .skip) [1, 1, 1, 0, 1, 0, 0]) n (halterlaw27_TraceOnce.l0_S a0 x94 x95 x96 x97 x98 x99 x100 x101 x102 (IntKind.wrap .i64 (x103 + (1 : Int)))) (halterlaw27_TraceOnce.l0_Q a0 r)))))))))))) ∧ ((!((x96 != (0 : Int)) == x102)) = true → ((!((x96 != (0 : Int)) == x102)) = true ∧ ((!((x96 != (0 : Int)) == x102)) = true ∧ ((!((x96 != (0 : Int)) == x102)) = true ∧ ((!((x96 != (0 : Int)) == x102)) = true ∧ ((!((x96 != (0 : Int)) == x102)) = true ∧ (true = true ∧ (True ∧ (((True) ∧ (True) ∧ True) ∧ halterlaw27_TraceOnce.l0_Q a0 r .ret ⟨[.any, .any, .v (.one (.sc (.bool false))), .any, .any, .any, .any, .any, .any, .any, .any, .any, .any, .any, .any, .any, .any, .any, .any, .any, .any, .any, .any, .any, .any, .any, .any, .any, .any, .any, .any, .any, .any, .any, .any, .any, .any, .any, .any, .any, .any, .any, .any, .any, .any, .any, .any, .any, .any, .any, .any, .any, .any, .any, .any, .any, .any, .any, .any, .any, .any, .any, .any, .any, .any, .any, .any, .any, .any, .any, .any, .any, .any, .any, .any, .any, .any, .any, .any, .any, .any, .any, .any, .any, .any, .any, .any, .any, .any, .any, .any, .any, .any, .any, .any, .any, .any, .any, .any, .any, .any, .any, .any, .any, .any, .any, .any, .any, .any, .any, .any, .any, .any, .any, .any, .any, .any, .any, .any, .any, .any, .any, .any, .any, .any, .any, .any, .any, .any, .any, .any, .any, .any, .any, .any, .any, .any, .any, .any, .any, .any, .any, .any, .any, .any, .any, .any, .any, .any, .any, .any, .any, .any, .any, .any, .any, .any, .any, .any, .any, .any, .any, .any, .any, .any, .any, .any, .any, .any, .any, .any, .any, .any, .any, .any, .any, .any], [.ex false [.c (.sc (.int .i64 x94)), .c (.sc (.bool x95)), .c (.sc (.int .u32 x96)), .c (.sc (.int .i64 x97)), .c (.sc (.int .i64 x98)), .c (.sc (.bool x99))] 26], 0⟩)))))))))))))))) ∧ ((!(x95 == x101)) = true → ((!(x95 == x101)) = true ∧ ((!(x95 == x101)) = true ∧ ((!(x95 == x101)) = true ∧ ((!(x95 == x101)) = true ∧ ((!(x95 == x101)) = true ∧ (true = true ∧ (true = true ∧ (true = true ∧ (true = true ∧ (true = true ∧ (true = true ∧ (true = true ∧ (True ∧ (((True) ∧ (True) ∧ True) ∧ halterlaw27_TraceOnce.l0_Q a0 r .ret ⟨[.any, .any, .v (.one (.sc (.bool false))), .any, .any, .any, .any, .any, .any, .any, .any, .any, .any, .any, .any, .any, .any, .any, .any, .any, .any, .any, .any, .any, .any, .any, .any, .any, .any, .any, .any, .any, .any, .any, .any, .any, .any, .any, .any, .any, .any, .any, .any, .any, .any, .any, .any, .any, .any, .any, .any, .any, .any, .any, .any, .any, .any, .any, .any, .any, .any, .any, .any, .any, .any, .any, .any, .any, .any, .any, .any, .any, .any, .any, .any, .any, .any, .any, .any, .any, .any, .any, .any, .any, .any, .any, .any, .any, .any, .any, .any, .any, .any, .any, .any, .any, .any, .any, .any, .any, .any, .any, .any, .any, .any, .any, .any, .any, .any, .any, .any, .any, .any, .any, .any, .any, .any, .any, .any, .any, .any, .any, .any, .any, .any, .any, .any, .any, .any, .any, .any, .any, .any, .any, .any, .any, .any, .any, .any, .any, .any, .any, .any, .any, .any, .any, .any, .any, .any, .any, .any, .any, .any, .any, .any, .any, .any, .any, .any, .any, .any, .any, .any, .any, .any, .any, .any, .any, .any, .any, .any, .any, .any, .any, .any, .any, .any], [.ex false [.c (.sc (.int .i64 x94)), .c (.sc (.bool x95)), .c (.sc (.int .u32 x96)), .c (.sc (.int .i64 x97)), .c (.sc (.int .i64 x98)), .c (.sc (.bool x99))] 26], 0⟩))))))))))))))))))))) ∧ ((!(Option.isNone t236)) = true → ((!(Option.isNone t236)) = true ∧ ((!(Option.isNone t236)) = true ∧ ((!(Option.isNone t236)) = true ∧ ((!(Option.isNone t236)) = true ∧ (true = true ∧ (true = true ∧ (true = true ∧ (true = true ∧ (true = true ∧ (true = true ∧ (true = true ∧ (true = true ∧ (true = true ∧ (true = true ∧ (true = true ∧ (true = true ∧ (true = true ∧ (True ∧ (((True) ∧ (True) ∧ True) ∧ halterlaw27_TraceOnce.l0_Q a0 r .ret ⟨[.any, .any, .v (.one (.sc (.bool false))), .any, .any, .any, .any, .any, .any, .any, .any, .any, .any, .any, .any, .any, .any, .any, .any, .any, .any, .any, .any, .any, .any, .any, .any, .any, .any, .any, .any, .any, .any, .any, .any, .any, .any, .any, .any, .any, .any, .any, .any, .any, .any, .any, .any, .any, .any, .any, .any, .any, .any, .any, .any, .any, .any, .any, .any, .any, .any, .any, .any, .any, .any, .any, .any, .any, .any, .any, .any, .any, .any, .any, .any, .any, .any, .any, .any, .any, .any, .any, .any, .any, .any, .any, .any, .any, .any, .any, .any, .any, .any, .any, .any, .any, .any, .any, .any, .any, .any, .any, .any, .any, .any, .any, .any, .any, .any, .any, .any, .any, .any, .any, .any, .any, .any, .any, .any, .any, .any, .any, .any, .any, .any, .any, .any, .any, .any, .any, .any, .any, .any, .any, .any, .any, .any, .any, .any, .any, .any, .any, .any, .any, .any, .any, .any, .any, .any, .any, .any, .any, .any, .any, .any, .any, .any, .any, .any, .any, .any, .any, .any, .any, .any, .any, .any, .any, .any, .any, .any, .any, .any, .any, .any, .any, .any], [.ex false [.c (.sc (.int .i64 x94)), .c (.sc (.bool x95)), .c (.sc (.int .u32 x96)), .c (.sc (.int .i64 x97)), .c (.sc (.int .i64 x98)), .c (.sc (.bool x99))] 26], 0⟩)))))))))))))))))))))))))))))) ∧ (x100 = false → (x100 = false ∧ (x100 = false ∧ (True) ∧ (((!((Option.isNone t227.2.2.2.2.2.2) == false)) = true → (True ∧ (((True) ∧ (True) ∧ True) ∧ halterlaw27_TraceOnce.l0_Q a0 r .ret ⟨[.any, .any, .v (.one (.sc (.bool false))), .any, .any, .any, .any, .any, .any, .any, .any, .any, .any, .any, .any, .any, .any, .any, .any, .any, .any, .any, .any, .any, .any, .any, .any, .any, .any, .any, .any, .any, .any, .any, .any, .any, .any, .any, .any, .any, .any, .any, .any, .any, .any, .any, .any, .any, .any, .any, .any, .any, .any, .any, .any, .any, .any, .any, .any, .any, .any, .any, .any, .any, .any, .any, .any, .any, .any, .any, .any, .any, .any, .any, .any, .any, .any, .any, .any, .any, .any, .any, .any, .any, .any, .any, .any, .any, .any, .any, .any, .any, .any, .any, .any, .any, .any, .any, .any, .any, .any, .any, .any, .any, .any, .any, .any, .any, .any, .any, .any, .any, .any, .any, .any, .any, .any, .any, .any, .any, .any, .any, .any, .any, .any, .any, .any, .any, .any, .any, .any, .any, .any, .any, .any, .any, .any, .any, .any, .any, .any, .any, .any, .any, .any, .any, .any, .any, .any, .any, .any, .any, .any, .any, .any, .any, .any, .any, .any, .any, .any, .any, .any, .any, .any, .any, .any, .any, .any, .any, .any, .any, .any, .any, .any, .any, .any], [.ex false [.c (.sc (.int .i64 x94)), .c (.sc (.bool x95)), .c (.sc (.int .u32 x96)), .c (.sc (.int .i64 x97)), .c (.sc (.int .i64 x98)), .c (.sc (.bool x99))] 26], 0⟩))) ∧ ((!((Option.isNone t227.2.2.2.2.2.2) == false)) = false → (True) ∧ (((Option.isNone t227.2.2.2.2.2.2) = true → (True) ∧ ((Option.isNone t227.2.2.2.2.2.2) = true ∧ (True) ∧ (True) ∧ (True) ∧ (∃ t243 : (Option Int), (Fun cfg 18 [.agg [.c (.sc (.int .i64 t227.1)), .c (.sc (.bool t227.2.1)), .c (.sc (.int .u32 t227.2.2.1)), .c (.sc (.int .i64 t227.2.2.2.1)), .c (.sc (.int .i64 t227.2.2.2.2.1)), .c (.sc (.bool t227.2.2.2.2.2.1))]] [] (trace_Check.R t243) [] ∧ True) ∧ (True) ∧ (((!(Option.isNone t243)) = false → ((!(Option.isNone t243)) = false ∧ (True) ∧ ((!(Option.isNone t243)) = false ∧ ((!(Option.isNone t243)) = false ∧ (True) ∧ ((!(Option.isNone t243)) = false ∧ (((!(t227.2.1 == true)) = false → ((!(t227.2.1 == true)) = false ∧ (True) ∧ ((!(t227.2.1 == true)) = false ∧ (True) ∧ ((!(t227.2.1 == true)) = false ∧ ((!(t227.2.1 == true)) = false ∧ (True) ∧ ((!(t227.2.1 == true)) = false ∧ (((!((t227.2.2.1 != (0 : Int)) == true)) = false → ((!((t227.2.2.1 != (0 : Int)) == true)) = false ∧ (True) ∧ ((!((t227.2.2.1 != (0 : Int)) == true)) = false ∧ (True) ∧ ((!((t227.2.2.1 != (0 : Int)) == true)) = false ∧ ((!((t227.2.2.1 != (0 : Int)) == true)) = false ∧ (True) ∧ ((!((t227.2.2.1 != (0 : Int)) == true)) = false ∧ (((!((t227.1 != (0 : Int)) == x100)) = true → (True ∧ (((True) ∧ (True) ∧ True) ∧ halterlaw27_TraceOnce.l0_Q a0 r .ret ⟨[.any, .any, .v (.one (.sc (.bool false))), .any, .any, .any, .any, .any, .any, .any, .any, .any, .any, .any, .any, .any, .any, .any, .any, .any, .any, .any, .any, .any, .any, .any, .any, .any, .any, .any, .any, .any, .any, .any, .any, .any, .any, .any, .any, .any, .any, .any, .any, .any, .any, .any, .any, .any, .any, .any, .any, .any, .any, .any, .any, .any, .any, .any, .any, .any, .any, .any, .any, .any, .any, .any, .any, .any, .any, .any, .any, .any, .any, .any, .any, .any, .any, .any, .any, .any, .any, .any, .any, .any, .any, .any, .any, .any, .any, .any, .any, .any, .any, .any, .any, .any, .any, .any, .any, .any, .any, .any, .any, .any, .any, .any, .any, .any, .any, .any, .any, .any, .any, .any, .any, .any, .any, .any, .any, .any, .any, .any, .any, .any, .any, .any, .any, .any, .any, .any, .any, .any, .any, .any, .any, .any, .any, .any, .any, .any, .any, .any, .any, .any, .any, .any, .any, .any, .any, .any, .any, .any, .any, .any, .any, .any, .any, .any, .any, .any, .any, .any, .any, .any, .any, .any, .any, .any, .any, .any, .any, .any, .any, .any, .any, .any, .any], [.ex false [.c (.sc (.int .i64 t227.1)), .c (.sc (.bool t227.2.1)), .c (.sc (.int .u32 t227.2.2.1)), .c (.sc (.int .i64 t227.2.2.2.1)), .c (.sc (.int .i64 t227.2.2.2.2.1)), .c (.sc (.bool t227.2.2.2.2.2.1))] 26], 0⟩))) ∧ ((!((t227.1 != (0 : Int)) == x100)) = false → (True ∧ (True ∧ (True) ∧ (((True) ∧ (True) ∧ True) ∧ TripN cfg (cpath (Tryd.f4.body.getD .skip) [1, 1, 1, 0, 1, 0, 0]) n (halterlaw27_TraceOnce.l0_S a0 t227.1 t227.2.1 t227.2.2.1 t227.2.2.2.1 t227.2.2.2.2.1 t227.2.2.2.2.2.1 x100 true true (IntKind.wrap .i64 (x103 + (1 : Int)))) (halterlaw27_TraceOnce.l0_Q a0 r)))))))))))) ∧ ((!((t227.2.2.1 != (0 : Int)) == true)) = true → ((!((t227.2.2.1 != (0 : Int)) == true)) = true ∧ ((!((t227.2.2.1 != (0 : Int)) == true)) = true ∧ ((!((t227.2.2.1 != (0 : Int)) == true)) = true ∧ ((!((t227.2.2.1 != (0 : Int)) == true)) = true ∧ ((!((t227.2.2.1 != (0 : Int)) == true)) = true ∧ (true = true ∧ (True ∧ (((True) ∧ (True) ∧ True) ∧ halterlaw27_TraceOnce.l0_Q a0 r .ret ⟨[.any, .any, .v (.one (.sc (.bool false))), .any, .any, .any, .any, .any, .any, .any, .any, .any, .any, .any, .any, .any, .any, .any, .any, .any, .any, .any, .any, .any, .any, .any, .any, .any, .any, .any, .any, .any, .any, .any, .any, .any, .any, .any, .any, .any, .any, .any, .any, .any, .any, .any, .any, .any, .any, .any, .any, .any, .any, .any, .any, .any, .any, .any, .any, .any, .any, .any, .any, .any, .any, .any, .any, .any, .any, .any, .any, .any, .any, .any, .any, .any, .any, .any, .any, .any, .any, .any, .any, .any, .any, .any, .any, .any, .any, .any, .any, .any, .any, .any, .any, .any, .any, .any, .any, .any, .any, .any, .any, .any, .any, .any, .any, .any, .any, .any, .any, .any, .any, .any, .any, .any, .any, .any, .any, .any, .any, .any, .any, .any, .any, .any, .any, .any, .any, .any, .any, .any, .any, .any, .any, .any, .any, .any, .any, .any, .any, .any, .any, .any, .any, .any, .any, .any, .any, .any, .any, .any, .any, .any, .any, .any, .any, .any, .any, .any, .any, .any, .any, .any, .any, .any, .any, .any, .any, .any, .any, .any, .any, .any, .any, .any, .any], [.ex false [.c (.sc (.int .i64 t227.1)), .c (.sc (.bool t227.2.1)), .c (.sc (.int .u32 t227.2.2.1)), .c (.sc (.int .i64 t227.2.2.2.1)), .c (.sc (.int .i64 t227.2.2.2.2.1)), .c (.sc (.bool t227.2.2.2.2.2.1))] 26], 0⟩)))))))))))))))) ∧ ((!(t227.2.1 == true)) = true → ((!(t227.2.1 == true)) = true ∧ ((!(t227.2.1 == true)) = true ∧ ((!(t227.2.1 == true)) = true ∧ ((!(t227.2.1 == true)) = true ∧ ((!(t227.2.1 == true)) = true ∧ (true = true ∧ (true = true ∧ (true = true ∧ (true = true ∧ (true = true ∧ (true = true ∧ (true = true ∧ (True ∧ (((True) ∧ (True) ∧ True) ∧ halterlaw27_TraceOnce.l0_Q a0 r .ret ⟨[.any, .any, .v (.one (.sc (.bool false))), .any, .any, .any, .any, .any, .any, .any, .any, .any, .any, .any, .any, .any, .any, .any, .any, .any, .any, .any, .any, .any, .any, .any, .any, .any, .any, .any, .any, .any, .any, .any, .any, .any, .any, .any, .any, .any, .any, .any, .any, .any, .any, .any, .any, .any, .any, .any, .any, .any, .any, .any, .any, .any, .any, .any, .any, .any, .any, .any, .any, .any, .any, .any, .any, .any, .any, .any, .any, .any, .any, .any, .any, .any, .any, .any, .any, .any, .any, .any, .any, .any, .any, .any, .any, .any, .any, .any, .any, .any, .any, .any, .any, .any, .any, .any, .any, .any, .any, .any, .any, .any, .any, .any, .any, .any, .any, .any, .any, .any, .any, .any, .any, .any, .any, .any, .any, .any, .any, .any, .any, .any, .any, .any, .any, .any, .any, .any, .any, .any, .any, .any, .any, .any, .any, .any, .any, .any, .any, .any, .any, .any, .any, .any, .any, .any, .any, .any, .any, .any, .any, .any, .any, .any, .any, .any, .any, .any, .any, .any, .any, .any, .any, .any, .any, .any, .any, .any, .any, .any, .any, .any, .any, .any, .any], [.ex false [.c (.sc (.int .i64 t227.1)), .c (.sc (.bool t227.2.1)), .c (.sc (.int .u32 t227.2.2.1)), .c (.sc (.int .i64 t227.2.2.2.1)), .c (.sc (.int .i64 t227.2.2.2.2.1)), .c (.sc (.bool t227.2.2.2.2.2.1))] 26], 0⟩))))))))))))))))))))) ∧ ((!(Option.isNone t243)) = true → ((!(Option.isNone t243)) = true ∧ ((!(Option.isNone t243)) = true ∧ ((!(Option.isNone t243)) = true ∧ ((!(Option.isNone t243)) = true ∧ (true = true ∧ (true = true ∧ (true = true ∧ (true = true ∧ (true = true ∧ (true = true ∧ (true = true ∧ (true = true ∧ (true = true ∧ (true = true ∧ (true = true ∧ (true = true ∧ (true = true ∧ (True ∧ (((True) ∧ (True) ∧ True) ∧ halterlaw27_TraceOnce.l0_Q a0 r .ret ⟨[.any, .any, .v (.one (.sc (.bool false))), .any, .any, .any, .any, .any, .any, .any, .any, .any, .any, .any, .any, .any, .any, .any, .any, .any, .any, .any, .any, .any, .any, .any, .any, .any, .any, .any, .any, .any, .any, .any, .any, .any, .any, .any, .any, .any, .any, .any, .any, .any, .any, .any, .any, .any, .any, .any, .any, .any, .any, .any, .any, .any, .any, .any, .any, .any, .any, .any, .any, .any, .any, .any, .any, .any, .any, .any, .any, .any, .any, .any, .any, .any, .any, .any, .any, .any, .any, .any, .any, .any, .any, .any, .any, .any, .any, .any, .any, .any, .any, .any, .any, .any, .any, .any, .any, .any, .any, .any, .any, .any, .any, .any, .any, .any, .any, .any, .any, .any, .any, .any, .any, .any, .any, .any, .any, .any, .any, .any, .any, .any, .any, .any, .any, .any, .any, .any, .any, .any, .any, .any, .any, .any, .any, .any, .any, .any, .any, .any, .any, .any, .any, .any, .any, .any, .any, .any, .any, .any, .any, .any, .any, .any, .any, .any, .any, .any, .any, .any, .any, .any, .any, .any, .any, .any, .any, .any, .any, .any, .any, .any, .any, .any, .any], [.ex false [.c (.sc (.int .i64 t227.1)), .c (.sc (.bool t227.2.1)), .c (.sc (.int .u32 t227.2.2.1)), .c (.sc (.int .i64 t227.2.2.2.1)), .c (.sc (.int .i64 t227.2.2.2.2.1)), .c (.sc (.bool t227.2.2.2.2.2.1))] 26], 0⟩)))))))))))))))))))))))) ∧ ((Option.isNone t227.2.2.2.2.2.2) = false → (True) ∧ ((Option.isNone t227.2.2.2.2.2.2) = false ∧ (True) ∧ (∃ t248 : (Option Int), (Fun cfg 18 [.agg [.c (.sc (.int .i64 x94)), .c (.sc (.bool x95)), .c (.sc (.int .u32 x96)), .c (.sc (.int .i64 x97)), .c (.sc (.int .i64 x98)), .c (.sc (.bool x99))]] [] (trace_Check.R t248) [] ∧ True) ∧ (True) ∧ (((!(Option.isNone t248)) = false → ((!(Option.isNone t248)) = false ∧ (True) ∧ ((!(Option.isNone t248)) = false ∧ ((!(Option.isNone t248)) = false ∧ (True) ∧ ((!(Option.isNone t248)) = false ∧ (((!(x95 == x101)) = false → ((!(x95 == x101)) = false ∧ (True) ∧ ((!(x95 == x101)) = false ∧ (True) ∧ ((!(x95 == x101)) = false ∧ ((!(x95 == x101)) = false ∧ (True) ∧ ((!(x95 == x101)) = false ∧ (((!((x96 != (0 : Int)) == x102)) = false → ((!((x96 != (0 : Int)) == x102)) = false ∧ (True) ∧ ((!((x96 != (0 : Int)) == x102)) = false ∧ (True) ∧ ((!((x96 != (0 : Int)) == x102)) = false ∧ ((!((x96 != (0 : Int)) == x102)) = false ∧ (True) ∧ ((!((x96 != (0 : Int)) == x102)) = false ∧ (((!((x94 != (0 : Int)) == x100)) = true → (True ∧ (((True) ∧ (True) ∧ True) ∧ halterlaw27_TraceOnce.l0_Q a0 r .ret ⟨[.any, .any, .v (.one (.sc (.bool false))), .any, .any, .any, .any, .any, .any, .any, .any, .any, .any, .any, .any, .any, .any, .any, .any, .any, .any, .any, .any, .any, .any, .any, .any, .any, .any, .any, .any, .any, .any, .any, .any, .any, .any, .any, .any, .any, .any, .any, .any, .any, .any, .any, .any, .any, .any, .any, .any, .any, .any, .any, .any, .any, .any, .any, .any, .any, .any, .any, .any, .any, .any, .any, .any, .any, .any, .any, .any, .any, .any, .any, .any, .any, .any, .any, .any, .any, .any, .any, .any, .any, .any, .any, .any, .any, .any, .any, .any, .any, .any, .any, .any, .any, .any, .any, .any, .any, .any, .any, .any, .any, .any, .any, .any, .any, .any, .any, .any, .any, .any, .any, .any, .any, .any, .any, .any, .any, .any, .any, .any, .any, .any, .any, .any, .any, .any, .any, .any, .any, .any, .any, .any, .any, .any, .any, .any, .any, .any, .any, .any, .any, .any, .any, .any, .any, .any, .any, .any, .any, .any, .any, .any, .any, .any, .any, .any, .any, .any, .any, .any, .any, .any, .any, .any, .any, .any, .any, .any, .any, .any, .any, .any, .any, .any], [.ex false [.c (.sc (.int .i64 x94)), .c (.sc (.bool x95)), .c (.sc (.int .u32 x96)), .c (.sc (.int .i64 x97)), .c (.sc (.int .i64 x98)), .c (.sc (.bool x99))] 26], 0⟩))) ∧ ((!((x94 != (0 : Int)) == x100)) = false → (True ∧ (True ∧ (True) ∧ (((True) ∧ (True) ∧ True) ∧ TripN cfg (cpath (Tryd.f4.body.getD .skip) [1, 1, 1, 0, 1, 0, 0]) n (halterlaw27_TraceOnce.l0_S a0 x94 x95 x96 x97 x98 x99 x100 x101 x102 (IntKind.wrap .i64 (x103 + (1 : Int)))) (halterlaw27_TraceOnce.l0_Q a0 r)))))))))))) ∧ ((!((x96 != (0 : Int)) == x102)) = true → ((!((x96 != (0 : Int)) == x102)) = true ∧ ((!((x96 != (0 : Int)) == x102)) = true ∧ ((!((x96 != (0 : Int)) == x102)) = true ∧ ((!((x96 != (0 : Int)) == x102)) = true ∧ ((!((x96 != (0 : Int)) == x102)) = true ∧ (true = true ∧ (True ∧ (((True) ∧ (True) ∧ True) ∧ halterlaw27_TraceOnce.l0_Q a0 r .ret ⟨[.any, .any, .v (.one (.sc (.bool false))), .any, .any, .any, .any, .any, .any, .any, .any, .any, .any, .any, .any, .any, .any, .any, .any, .any, .any, .any, .any, .any, .any, .any, .any, .any, .any, .any, .any, .any, .any, .any, .any, .any, .any, .any, .any, .any, .any, .any, .any, .any, .any, .any, .any, .any, .any, .any, .any, .any, .any, .any, .any, .any, .any, .any, .any, .any, .any, .any, .any, .any, .any, .any, .any, .any, .any, .any, .any, .any, .any, .any, .any, .any, .any, .any, .any, .any, .any, .any, .any, .any, .any, .any, .any, .any, .any, .any, .any, .any, .any, .any, .any, .any, .any, .any, .any, .any, .any, .any, .any, .any, .any, .any, .any, .any, .any, .any, .any, .any, .any, .any, .any, .any, .any, .any, .any, .any, .any, .any, .any, .any, .any, .any, .any, .any, .any, .any, .any, .any, .any, .any, .any, .any, .any, .any, .any, .any, .any, .any, .any, .any, .any, .any, .any, .any, .any, .any, .any, .any, .any, .any, .any, .any, .any, .any, .any, .any, .any, .any, .any, .any, .any, .any, .any, .any, .any, .any, .any, .any, .any, .any, .any, .any, .any], [.ex false [.c (.sc (.int .i64 x94)), .c (.sc (.bool x95)), .c (.sc (.int .u32 x96)), .c (.sc (.int .i64 x97)), .c (.sc (.int .i64 x98)), .c (.sc (.bool x99))] 26], 0⟩)))))))))))))))) ∧ ((!(x95 == x101)) = true → ((!(x95 == x101)) = true ∧ ((!(x95 == x101)) = true ∧ ((!(x95 == x101)) = true ∧ ((!(x95 == x101)) = true ∧ ((!(x95 == x101)) = true ∧ (true = true ∧ (true = true ∧ (true = true ∧ (true = true ∧ (true = true ∧ (true = true ∧ (true = true ∧ (True ∧ (((True) ∧ (True) ∧ True) ∧ halterlaw27_TraceOnce.l0_Q a0 r .ret ⟨[.any, .any, .v (.one (.sc (.bool false))), .any, .any, .any, .any, .any, .any, .any, .any, .any, .any, .any, .any, .any, .any, .any, .any, .any, .any, .any, .any, .any, .any, .any, .any, .any, .any, .any, .any, .any, .any, .any, .any, .any, .any, .any, .any, .any, .any, .any, .any, .any, .any, .any, .any, .any, .any, .any, .any, .any, .any, .any, .any, .any, .any, .any, .any, .any, .any, .any, .any, .any, .any, .any, .any, .any, .any, .any, .any, .any, .any, .any, .any, .any, .any, .any, .any, .any, .any, .any, .any, .any, .any, .any, .any, .any, .any, .any, .any, .any, .any, .any, .any, .any, .any, .any, .any, .any, .any, .any, .any, .any, .any, .any, .any, .any, .any, .any, .any, .any, .any, .any, .any, .any, .any, .any, .any, .any, .any, .any, .any, .any, .any, .any, .any, .any, .any, .any, .any, .any, .any, .any, .any, .any, .any, .any, .any, .any, .any, .any, .any, .any, .any, .any, .any, .any, .any, .any, .any, .any, .any, .any, .any, .any, .any, .any, .any, .any, .any, .any, .any, .any, .any, .any, .any, .any, .any, .any, .any, .any, .any, .any, .any, .any, .any], [.ex false [.c (.sc (.int .i64 x94)), .c (.sc (.bool x95)), .c (.sc (.int .u32 x96)), .c (.sc (.int .i64 x97)), .c (.sc (.int .i64 x98)), .c (.sc (.bool x99))] 26], 0⟩))))))))))))))))))))) ∧ ((!(Option.isNone t248)) = true → ((!(Option.isNone t248)) = true ∧ ((!(Option.isNone t248)) = true ∧ ((!(Option.isNone t248)) = true ∧ ((!(Option.isNone t248)) = true ∧ (true = true ∧ (true = true ∧ (true = true ∧ (true = true ∧ (true = true ∧ (true = true ∧ (true = true ∧ (true = true ∧ (true = true ∧ (true = true ∧ (true = true ∧ (true = true ∧ (true = true ∧ (True ∧ (((True) ∧ (True) ∧ True) ∧ halterlaw27_TraceOnce.l0_Q a0 r .ret ⟨[.any, .any, .v (.one (.sc (.bool false))), .any, .any, .any, .any, .any, .any, .any, .any, .any, .any, .any, .any, .any, .any, .any, .any, .any, .any, .any, .any, .any, .any, .any, .any, .any, .any, .any, .any, .any, .any, .any, .any, .any, .any, .any, .any, .any, .any, .any, .any, .any, .any, .any, .any, .any, .any, .any, .any, .any, .any, .any, .any, .any, .any, .any, .any, .any, .any, .any, .any, .any, .any, .any, .any, .any, .any, .any, .any, .any, .any, .any, .any, .any, .any, .any, .any, .any, .any, .any, .any, .any, .any, .any, .any, .any, .any, .any, .any, .any, .any, .any, .any, .any, .any, .any, .any, .any, .any, .any, .any, .any, .any, .any, .any, .any, .any, .any, .any, .any, .any, .any, .any, .any, .any, .any, .any, .any, .any, .any, .any, .any, .any, .any, .any, .any, .any, .any, .any, .any, .any, .any, .any, .any, .any, .any, .any, .any, .any, .any, .any, .any, .any, .any, .any, .any, .any, .any, .any, .any, .any, .any, .any, .any, .any, .any, .any, .any, .any, .any, .any, .any, .any, .any, .any, .any, .any, .any, .any, .any, .any, .any, .any, .any, .any], [.ex false [.c (.sc (.int .i64 x94)), .c (.sc (.bool x95)), .c (.sc (.int .u32 x96)), .c (.sc (.int .i64 x97)), .c (.sc (.int .i64 x98)), .c (.sc (.bool x99))] 26], 0⟩))))))))))))))))))))))))))))))))) ∧ (((IntKind.wrap .i64 ((Int.tmod (IntKind.wrap .u64 ((List.getD a0 (Int.toNat x103) ((0 : Int), ((0 : Int), ((0 : Int), (0 : Int))))).1)) (6 : Int)))) == (1 : Int)) = false → (True) ∧ ((((IntKind.wrap .i64 ((Int.tmod (IntKind.wrap .u64 ((List.getD a0 (Int.toNat x103) ((0 : Int), ((0 : Int), ((0 : Int), (0 : Int))))).1)) (6 : Int)))) == (2 : Int)) = true → (True) ∧ (∃ t254 : Int × Int × Bool × Int × Int × Int × Bool × (Option Int), (Fun cfg 10 [.agg [.c (.sc (.int .i64 x94)), .c (.sc (.bool x95)), .c (.sc (.int .u32 x96)), .c (.sc (.int .i64 x97)), .c (.sc (.int .i64 x98)), .c (.sc (.bool x99))]] [] (trace_Collect.R t254) [] ∧ True) ∧ (True) ∧ (True) ∧ (True) ∧ (True) ∧ (True) ∧ (((!((Option.isNone t254.2.2.2.2.2.2.2) == x102)) = false → ((!((Option.isNone t254.2.2.2.2.2.2.2) == x102)) = false ∧ (True) ∧ ((!((Option.isNone t254.2.2.2.2.2.2.2) == x102)) = false ∧ (((Option.isNone t254.2.2.2.2.2.2.2) = true → ((Option.isNone t254.2.2.2.2.2.2.2) = true ∧ (True) ∧ ((!((Option.isNone t254.2.2.2.2.2.2.2) == x102)) = false ∧ ((Option.isNone t254.2.2.2.2.2.2.2) = true ∧ ((!((Option.isNone t254.2.2.2.2.2.2.2) == x102)) = false ∧ (((t254.1 == (0 : Int)) = true → (True ∧ (((True) ∧ (True) ∧ True) ∧ halterlaw27_TraceOnce.l0_Q a0 r .ret ⟨[.any, .any, .v (.one (.sc (.bool false))), .any, .any, .any, .any, .any, .any, .any, .any, .any, .any, .any, .any, .any, .any, .any, .any, .any, .any, .any, .any, .any, .any, .any, .any, .any, .any, .any, .any, .any, .any, .any, .any, .any, .any, .any, .any, .any, .any, .any, .any, .any, .any, .any, .any, .any, .any, .any, .any, .any, .any, .any, .any, .any, .any, .any, .any, .any, .any, .any, .any, .any, .any, .any, .any, .any, .any, .any, .any, .any, .any, .any, .any, .any, .any, .any, .any, .any, .any, .any, .any, .any, .any, .any, .any, .any, .any, .any, .any, .any, .any, .any, .any, .any, .any, .any, .any, .any, .any, .any, .any, .any, .any, .any, .any, .any, .any, .any, .any, .any, .any, .any, .any, .any, .any, .any, .any, .any, .any, .any, .any, .any, .any, .any, .any, .any, .any, .any, .any, .any, .any, .any, .any, .any, .any, .any, .any, .any, .any, .any, .any, .any, .any, .any, .any, .any, .any, .any, .any, .any, .any, .any, .any, .any, .any, .any, .any, .any, .any, .any, .any, .any, .any, .any, .any, .any, .any, .any, .any, .any, .any, .any, .any, .any, .any], [.ex false [.c (.sc (.int .i64 x94)), .c (.sc (.bool x95)), .c (.sc (.int .u32 x96)), .c (.sc (.int .i64 x97)), .c (.sc (.int .i64 x98)), .c (.sc (.bool x99))] 26], 0⟩))) ∧ ((t254.1 == (0 : Int)) = false → (True) ∧ ((Option.isNone t254.2.2.2.2.2.2.2) = true ∧ (True) ∧ (True) ∧ (True) ∧ (∃ t258 : (Option Int), (Fun cfg 18 [.agg [.c (.sc (.int .i64 t254.2.1)), .c (.sc (.bool t254.2.2.1)), .c (.sc (.int .u32 t254.2.2.2.1)), .c (.sc (.int .i64 t254.2.2.2.2.1)), .c (.sc (.int .i64 t254.2.2.2.2.2.1)), .c (.sc (.bool t254.2.2.2.2.2.2.1))]] [] (trace_Check.R t258) [] ∧ True) ∧ (True) ∧ (((!(Option.isNone t258)) = false → ((!(Option.isNone t258)) = false ∧ (True) ∧ ((!(Option.isNone t258)) = false ∧ ((!(Option.isNone t258)) = false ∧ (True) ∧ ((!(Option.isNone t258)) = false ∧ (((!(t254.2.2.1 == x101)) = false → ((!(t254.2.2.1 == x101)) = false ∧ (True) ∧ ((!(t254.2.2.1 == x101)) = false ∧ (True) ∧ ((!(t254.2.2.1 == x101)) = false ∧ ((!(t254.2.2.1 == x101)) = false ∧ (True) ∧ ((!(t254.2.2.1 == x101)) = false ∧ (((!((t254.2.2.2.1 != (0 : Int)) == false)) = false → ((!((t254.2.2.2.1 != (0 : Int)) == false)) = false ∧ (True) ∧ ((!((t254.2.2.2.1 != (0 : Int)) == false)) = false ∧ (True) ∧ ((!((t254.2.2.2.1 != (0 : Int)) == false)) = false ∧ ((!((t254.2.2.2.1 != (0 : Int)) == false)) = false ∧ (True) ∧ ((!((t254.2.2.2.1 != (0 : Int)) == false)) = false ∧ (((!((t254.2.1 != (0 : Int)) == x100)) = true → (True ∧ (((True) ∧ (True) ∧ True) ∧ halterlaw27_TraceOnce.l0_Q a0 r .ret ⟨[.any, .any, .v (.one (.sc (.bool false))), .any, .any, .any, .any, .any, .any, .any, .any, .any, .any, .any, .any, .any, .any, .any, .any, .any, .any, .any, .any, .any, .any, .any, .any, .any, .any, .any, .any, .any, .any, .any, .any, .any, .any, .any, .any, .any, .any, .any, .any, .any, .any, .any, .any, .any, .any, .any, .any, .any, .any, .any, .any, .any, .any, .any, .any, .any, .any, .any, .any, .any, .any, .any, .any, .any, .any, .any, .any, .any, .any, .any, .any, .any, .any, .any, .any, .any, .any, .any, .any, .any, .any, .any, .any, .any, .any, .any, .any, .any, .any, .any, .any, .any, .any, .any, .any, .any, .any, .any, .any, .any, .any, .any, .any, .any, .any, .any, .any, .any, .any, .any, .any, .any, .any, .any, .any, .any, .any, .any, .any, .any, .any, .any, .any, .any, .any, .any, .any, .any, .any, .any, .any, .any, .any, .any, .any, .any, .any, .any, .any, .any, .any, .any, .any, .any, .any, .any, .any, .any, .any, .any, .any, .any, .any, .any, .any, .any, .any, .any, .any, .any, .any, .any, .any, .any, .any, .any, .any, .any, .any, .any, .any, .any, .any], [.ex false [.c (.sc (.int .i64 t254.2.1)), .c (.sc (.bool t254.2.2.1)), .c (.sc (.int .u32 t254.2.2.2.1)), .c (.sc (.int .i64 t254.2.2.2.2.1)), .c (.sc (.int .i64 t254.2.2.2.2.2.1)), .c (.sc (.bool t254.2.2.2.2.2.2.1))] 26], 0⟩))) ∧ ((!((t254.2.1 != (0 : Int)) == x100)) = false → (True ∧ (True ∧ (True) ∧ (((True) ∧ (True) ∧ True) ∧ TripN cfg (cpath (Tryd.f4.body.getD .skip) [1, 1, 1, 0, 1, 0, 0]) n (halterlaw27_TraceOnce.l0_S a0 t254.2.1 t254.2.2.1 t254.2.2.2.1 t254.2.2.2.2.1 t254.2.2.2.2.2.1 t254.2.2.2.2.2.2.1 x100 x101 false (IntKind.wrap .i64 (x103 + (1 : Int)))) (halterlaw27_TraceOnce.l0_Q a0 r)))))))))))) ∧ ((!((t254.2.2.2.1 != (0 : Int)) == false)) = true → ((!((t254.2.2.2.1 != (0 : Int)) == false)) = true ∧ ((!((t254.2.2.2.1 != (0 : Int)) == false)) = true ∧ ((!((t254.2.2.2.1 != (0 : Int)) == false)) = true ∧ ((!((t254.2.2.2.1 != (0 : Int)) == false)) = true ∧ ((!((t254.2.2.2.1 != (0 : Int)) == false)) = true ∧ (true = true ∧ (True ∧ (((True) ∧ (True) ∧ True) ∧ halterlaw27_TraceOnce.l0_Q a0 r .ret ⟨[.any, .any, .v (.one (.sc (.bool false))), .any, .any, .any, .any, .any, .any, .any, .any, .any, .any, .any, .any, .any, .any, .any, .any, .any, .any, .any, .any, .any, .any, .any, .any, .any, .any, .any, .any, .any, .any, .any, .any, .any, .any, .any, .any, .any, .any, .any, .any, .any, .any, .any, .any, .any, .any, .any, .any, .any, .any, .any, .any, .any, .any, .any, .any, .any, .any, .any, .any, .any, .any, .any, .any, .any, .any, .any, .any, .any, .any, .any, .any, .any, .any, .any, .any, .any, .any, .any, .any, .any, .any, .any, .any, .any, .any, .any, .any, .any, .any, .any, .any, .any, .any, .any, .any, .any, .any, .any, .any, .any, .any, .any, .any, .any, .any, .any, .any, .any, .any, .any, .any, .any, .any, .any, .any, .any, .any, .any, .any, .any, .any, .any, .any, .any, .any, .any, .any, .any, .any, .any, .any, .any, .any, .any, .any, .any, .any, .any, .any, .any, .any, .any, .any, .any, .any, .any, .any, .any, .any, .any, .any, .any, .any, .any, .any, .any, .any, .any, .any, .any, .any, .any, .any, .any, .any, .any, .any, .any, .any, .any, .any, .any, .any], [.ex false [.c (.sc (.int .i64 t254.2.1)), .c (.sc (.bool t254.2.2.1)), .c (.sc (.int .u32 t254.2.2.2.1)), .c (.sc (.int .i64 t254.2.2.2.2.1)), .c (.sc (.int .i64 t254.2.2.2.2.2.1)), .c (.sc (.bool t254.2.2.2.2.2.2.1))] 26], 0⟩)))))))))))))))) ∧ ((!(t254.2.2.1 == x101)) = true → ((!(t254.2.2.1 == x101)) = true ∧ ((!(t254.2.2.1 == x101)) = true ∧ ((!(t254.2.2.1 == x101)) = true ∧ ((!(t254.2.2.1 == x101)) = true ∧ ((!(t254.2.2.1 == x101)) = true ∧ (true = true ∧ (true = true ∧ (true = true ∧ (true = true ∧ (true = true ∧ (true = true ∧ (true = true ∧ (True ∧ (((True) ∧ (True) ∧ True) ∧ halterlaw27_TraceOnce.l0_Q a0 r .ret ⟨[.any, .any, .v (.one (.sc (.bool false))), .any, .any, .any, .any, .any, .any, .any, .any, .any, .any, .any, .any, .any, .any, .any, .any, .any, .any, .any, .any, .any, .any, .any, .any, .any, .any, .any, .any, .any, .any, .any, .any, .any, .any, .any, .any, .any, .any, .any, .any, .any, .any, .any, .any, .any, .any, .any, .any, .any, .any, .any, .any, .any, .any, .any, .any, .any, .any, .any, .any, .any, .any, .any, .any, .any, .any, .any, .any, .any, .any, .any, .any, .any, .any, .any, .any, .any, .any, .any, .any, .any, .any, .any, .any, .any, .any, .any, .any, .any, .any, .any, .any, .any, .any, .any, .any, .any, .any, .any, .any, .any, .any, .any, .any, .any, .any, .any, .any, .any, .any, .any, .any, .any, .any, .any, .any, .any, .any, .any, .any, .any, .any, .any, .any, .any, .any, .any, .any, .any, .any, .any, .any, .any, .any, .any, .any, .any, .any, .any, .any, .any, .any, .any, .any, .any, .any, .any, .any, .any, .any, .any, .any, .any, .any, .any, .any, .any, .any, .any, .any, .any, .any, .any, .any, .any, .any, .any, .any, .any, .any, .any, .any, .any, .any], [.ex false [.c (.sc (.int .i64 t254.2.1)), .c (.sc (.bool t254.2.2.1)), .c (.sc (.int .u32 t254.2.2.2.1)), .c (.sc (.int .i64 t254.2.2.2.2.1)), .c (.sc (.int .i64 t254.2.2.2.2.2.1)), .c (.sc (.bool t254.2.2.2.2.2.2.1))] 26], 0⟩))))))))))))))))))))) ∧ ((!(Option.isNone t258)) = true → ((!(Option.isNone t258)) = true ∧ ((!(Option.isNone t258)) = true ∧ ((!(Option.isNone t258)) = true ∧ ((!(Option.isNone t258)) = true ∧ (true = true ∧ (true = true ∧ (true = true ∧ (true = true ∧ (true = true ∧ (true = true ∧ (true = true ∧ (true = true ∧ (true = true ∧ (true = true ∧ (true = true ∧ (true = true ∧ (true = true ∧ (True ∧ (((True) ∧ (True) ∧ True) ∧ halterlaw27_TraceOnce.l0_Q a0 r .ret ⟨[.any, .any, .v (.one (.sc (.bool false))), .any, .any, .any, .any, .any, .any, .any, .any, .any, .any, .any, .any, .any, .any, .any, .any, .any, .any, .any, .any, .any, .any, .any, .any, .any, .any, .any, .any, .any, .any, .any, .any, .any, .any, .any, .any, .any, .any, .any, .any, .any, .any, .any, .any, .any, .any, .any, .any, .any, .any, .any, .any, .any, .any, .any, .any, .any, .any, .any, .any, .any, .any, .any, .any, .any, .any, .any, .any, .any, .any, .any, .any, .any, .any, .any, .any, .any, .any, .any, .any, .any, .any, .any, .any, .any, .any, .any, .any, .any, .any, .any, .any, .any, .any, .any, .any, .any, .any, .any, .any, .any, .any, .any, .any, .any, .any, .any, .any, .any, .any, .any, .any, .any, .any, .any, .any, .any, .any, .any, .any, .any, .any, .any, .any, .any, .any, .any, .any, .any, .any, .any, .any, .any, .any, .any, .any, .any, .any, .any, .any, .any, .any, .any, .any, .any, .any, .any, .any, .any, .any, .any, .any, .any, .any, .any, .any, .any, .any, .any, .any, .any, .any, .any, .any, .any, .any, .any, .any, .any, .any, .any, .any, .any, .any], [.ex false [.c (.sc (.int .i64 t254.2.1)), .c (.sc (.bool t254.2.2.1)), .c (.sc (.int .u32 t254.2.2.2.1)), .c (.sc (.int .i64 t254.2.2.2.2.1)), .c (.sc (.int .i64 t254.2.2.2.2.2.1)), .c (.sc (.bool t254.2.2.2.2.2.2.1))] 26], 0⟩)))))))))))))))))))))))))))))) ∧ ((Option.isNone t254.2.2.2.2.2.2.2) = false → ((Option.isNone t254.2.2.2.2.2.2.2) = false ∧ ((!((Option.isNone t254.2.2.2.2.2.2.2) == x102)) = false ∧ ((Option.isNone t254.2.2.2.2.2.2.2) = false ∧ ((!((Option.isNone t254.2.2.2.2.2.2.2) == x102)) = false ∧ (false = false ∧ (True) ∧ ((Option.isNone t254.2.2.2.2.2.2.2) = false ∧ (True) ∧ (∃ t263 : (Option Int), (Fun cfg 18 [.agg [.c (.sc (.int .i64 x94)), .c (.sc (.bool x95)), .c (.sc (.int .u32 x96)), .c (.sc (.int .i64 x97)), .c (.sc (.int .i64 x98)), .c (.sc (.bool x99))]] [] (trace_Check.R t263) [] ∧ True) ∧ (True) ∧ (((!(Option.isNone t263)) = false → ((!(Option.isNone t263)) = false ∧ (True) ∧ ((!(Option.isNone t263)) = false ∧ ((!(Option.isNone t263)) = false ∧ (True) ∧ ((!(Option.isNone t263)) = false ∧ (((!(x95 == x101)) = false → ((!(x95 == x101)) = false ∧ (True) ∧ ((!(x95 == x101)) = false ∧ (True) ∧ ((!(x95 == x101)) = false ∧ ((!(x95 == x101)) = false ∧ (True) ∧ ((!(x95 == x101)) = false ∧ (((!((x96 != (0 : Int)) == false)) = false → ((!((x96 != (0 : Int)) == false)) = false ∧ (True) ∧ ((!((x96 != (0 : Int)) == false)) = false ∧ (True) ∧ ((!((x96 != (0 : Int)) == false)) = false ∧ ((!((x96 != (0 : Int)) == false)) = false ∧ (True) ∧ ((!((x96 != (0 : Int)) == false)) = false ∧ (((!((x94 != (0 : Int)) == x100)) = true → (True ∧ (((True) ∧ (True) ∧ True) ∧ halterlaw27_TraceOnce.l0_Q a0 r .ret ⟨[.any, .any, .v (.one (.sc (.bool false))), .any, .any, .any, .any, .any, .any, .any, .any, .any, .any, .any, .any, .any, .any, .any, .any, .any, .any, .any, .any, .any, .any, .any, .any, .any, .any, .any, .any, .any, .any, .any, .any, .any, .any, .any, .any, .any, .any, .any, .any, .any, .any, .any, .any, .any, .any, .any, .any, .any, .any, .any, .any, .any, .any, .any, .any, .any, .any, .any, .any, .any, .any, .any, .any, .any, .any, .any, .any, .any, .any, .any, .any, .any, .any, .any, .any, .any, .any, .any, .any, .any, .any, .any, .any, .any, .any, .any, .any, .any, .any, .any, .any, .any, .any, .any, .any, .any, .any, .any, .any, .any, .any, .any, .any, .any, .any, .any, .any, .any, .any, .any, .any, .any, .any, .any, .any, .any, .any, .any, .any, .any, .any, .any, .any, .any, .any, .any, .any, .any, .any, .any, .any, .any, .any, .any, .any, .any, .any, .any, .any, .any, .any, .any, .any, .any, .any, .any, .any, .any, .any, .any, .any, .any, .any, .any, .any, .any, .any, .any, .any, .any, .any, .any, .any, .any, .any, .any, .any, .any, .any, .any, .any, .any, .any], [.ex false [.c (.sc (.int .i64 x94)), .c (.sc (.bool x95)), .c (.sc (.int .u32 x96)), .c (.sc (.int .i64 x97)), .c (.sc (.int .i64 x98)), .c (.sc (.bool x99))] 26], 0⟩))) ∧ ((!((x94 != (0 : Int)) == x100)) = false → (True ∧ (True ∧ (True) ∧ (((True) ∧ (True) ∧ True) ∧ TripN cfg (cpath (Tryd.f4.body.getD .skip) [1, 1, 1, 0, 1, 0, 0]) n (halterlaw27_TraceOnce.l0_S a0 x94 x95 x96 x97 x98 x99 x100 x101 false (IntKind.wrap .i64 (x103 + (1 : Int)))) (halterlaw27_TraceOnce.l0_Q a0 r)))))))))))) ∧ ((!((x96 != (0 : Int)) == false)) = true → ((!((x96 != (0 : Int)) == false)) = true ∧ ((!((x96 != (0 : Int)) == false)) = true ∧ ((!((x96 != (0 : Int)) == false)) = true ∧ ((!((x96 != (0 : Int)) == false)) = true ∧ ((!((x96 != (0 : Int)) == false)) = true ∧ (true = true ∧ (True ∧ (((True) ∧ (True) ∧ True) ∧ halterlaw27_TraceOnce.l0_Q a0 r .ret ⟨[.any, .any, .v (.one (.sc (.bool false))), .any, .any, .any, .any, .any, .any, .any, .any, .any, .any, .any, .any, .any, .any, .any, .any, .any, .any, .any, .any, .any, .any, .any, .any, .any, .any, .any, .any, .any, .any, .any, .any, .any, .any, .any, .any, .any, .any, .any, .any, .any, .any, .any, .any, .any, .any, .any, .any, .any, .any, .any, .any, .any, .any, .any, .any, .any, .any, .any, .any, .any, .any, .any, .any, .any, .any, .any, .any, .any, .any, .any, .any, .any, .any, .any, .any, .any, .any, .any, .any, .any, .any, .any, .any, .any, .any, .any, .any, .any, .any, .any, .any, .any, .any, .any, .any, .any, .any, .any, .any, .any, .any, .any, .any, .any, .any, .any, .any, .any, .any, .any, .any, .any, .any, .any, .any, .any, .any, .any, .any, .any, .any, .any, .any, .any, .any, .any, .any, .any, .any, .any, .any, .any, .any, .any, .any, .any, .any, .any, .any, .any, .any, .any, .any, .any, .any, .any, .any, .any, .any, .any, .any, .any, .any, .any, .any, .any, .any, .any, .any, .any, .any, .any, .any, .any, .any, .any, .any, .any, .any, .any, .any, .any, .any], [.ex false [.c (.sc (.int .i64 x94)), .c (.sc (.bool x95)), .c (.sc (.int .u32 x96)), .c (.sc (.int .i64 x97)), .c (.sc (.int .i64 x98)), .c (.sc (.bool x99))] 26], 0⟩)))))))))))))))) ∧ ((!(x95 == x101)) = true → ((!(x95 == x101)) = true ∧ ((!(x95 == x101)) = true ∧ ((!(x95 == x101)) = true ∧ ((!(x95 == x101)) = true ∧ ((!(x95 == x101)) = true ∧ (true = true ∧ (true = true ∧ (true = true ∧ (true = true ∧ (true = true ∧ (true = true ∧ (true = true ∧ (True ∧ (((True) ∧ (True) ∧ True) ∧ halterlaw27_TraceOnce.l0_Q a0 r .ret ⟨[.any, .any, .v (.one (.sc (.bool false))), .any, .any, .any, .any, .any, .any, .any, .any, .any, .any, .any, .any, .any, .any, .any, .any, .any, .any, .any, .any, .any, .any, .any, .any, .any, .any, .any, .any, .any, .any, .any, .any, .any, .any, .any, .any, .any, .any, .any, .any, .any, .any, .any, .any, .any, .any, .any, .any, .any, .any, .any, .any, .any, .any, .any, .any, .any, .any, .any, .any, .any, .any, .any, .any, .any, .any, .any, .any, .any, .any, .any, .any, .any, .any, .any, .any, .any, .any, .any, .any, .any, .any, .any, .any, .any, .any, .any, .any, .any, .any, .any, .any, .any, .any, .any, .any, .any, .any, .any, .any, .any, .any, .any, .any, .any, .any, .any, .any, .any, .any, .any, .any, .any, .any, .any, .any, .any, .any, .any, .any, .any, .any, .any, .any, .any, .any, .any, .any, .any, .any, .any, .any, .any, .any, .any, .any, .any, .any, .any, .any, .any, .any, .any, .any, .any, .any, .any, .any, .any, .any, .any, .any, .any, .any, .any, .any, .any, .any, .any, .any, .any, .any, .any, .any, .any, .any, .any, .any, .any, .any, .any, .any, .any, .any], [.ex false [.c (.sc (.int .i64 x94)), .c (.sc (.bool x95)), .c (.sc (.int .u32 x96)), .c (.sc (.int .i64 x97)), .c (.sc (.int .i64 x98)), .c (.sc (.bool x99))] 26], 0⟩))))))))))))))))))))) ∧ ((!(Option.isNone t263)) = true → ((!(Option.isNone t263)) = true ∧ ((!(Option.isNone t263)) = true ∧ ((!(Option.isNone t263)) = true ∧ ((!(Option.isNone t263)) = true ∧ (true = true ∧ (true = true ∧ (true = true ∧ (true = true ∧ (true = true ∧ (true = true ∧ (true = true ∧ (true = true ∧ (true = true ∧ (true = true ∧ (true = true ∧ (true = true ∧ (true = true ∧ (True ∧ (((True) ∧ (True) ∧ True) ∧ halterlaw27_TraceOnce.l0_Q a0 r .ret ⟨[.any, .any, .v (.one (.sc (.bool false))), .any, .any, .any, .any, .any, .any, .any, .any, .any, .any, .any, .any, .any, .any, .any, .any, .any, .any, .any, .any, .any, .any, .any, .any, .any, .any, .any, .any, .any, .any, .any, .any, .any, .any, .any, .any, .any, .any, .any, .any, .any, .any, .any, .any, .any, .any, .any, .any, .any, .any, .any, .any, .any, .any, .any, .any, .any, .any, .any, .any, .any, .any, .any, .any, .any, .any, .any, .any, .any, .any, .any, .any, .any, .any, .any, .any, .any, .any, .any, .any, .any, .any, .any, .any, .any, .any, .any, .any, .any, .any, .any, .any, .any, .any, .any, .any, .any, .any, .any, .any, .any, .any, .any, .any, .any, .any, .any, .any, .any, .any, .any, .any, .any, .any, .any, .any, .any, .any, .any, .any, .any, .any, .any, .any, .any, .any, .any, .any, .any, .any, .any, .any, .any, .any, .any, .any, .any, .any, .any, .any, .any, .any, .any, .any, .any, .any, .any, .any, .any, .any, .any, .any, .any, .any, .any, .any, .any, .any, .any, .any, .any, .any, .any, .any, .any, .any, .any, .any, .any, .any, .any, .any, .any, .any], [.ex false [.c (.sc (.int .i64 x94)), .c (.sc (.bool x95)), .c (.sc (.int .u32 x96)), .c (.sc (.int .i64 x97)), .c (.sc (.int .i64 x98)), .c (.sc (.bool x99))] 26], 0⟩))))))))))))))))))))))))))))))))) ∧ ((!((Option.isNone t254.2.2.2.2.2.2.2) == x102)) = true → ((!((Option.isNone t254.2.2.2.2.2.2.2) == x102)) = true ∧ ((!((Option.isNone t254.2.2.2.2.2.2.2) == x102)) = true ∧ ((!((Option.isNone t254.2.2.2.2.2.2.2) == x102)) = true ∧ ((!((Option.isNone t254.2.2.2.2.2.2.2) == x102)) = true ∧ (true = true ∧ (True ∧ (((True) ∧ (True) ∧ True) ∧ halterlaw27_TraceOnce.l0_Q a0 r .ret ⟨[.any, .any, .v (.one (.sc (.bool false))), .any, .any, .any, .any, .any, .any, .any, .any, .any, .any, .any, .any, .any, .any, .any, .any, .any, .any, .any, .any, .any, .any, .any, .any, .any, .any, .any, .any, .any, .any, .any, .any, .any, .any, .any, .any, .any, .any, .any, .any, .any, .any, .any, .any, .any, .any, .any, .any, .any, .any, .any, .any, .any, .any, .any, .any, .any, .any, .any, .any, .any, .any, .any, .any, .any, .any, .any, .any, .any, .any, .any, .any, .any, .any, .any, .any, .any, .any, .any, .any, .any, .any, .any, .any, .any, .any, .any, .any, .any, .any, .any, .any, .any, .any, .any, .any, .any, .any, .any, .any, .any, .any, .any, .any, .any, .any, .any, .any, .any, .any, .any, .any, .any, .any, .any, .any, .any, .any, .any, .any, .any, .any, .any, .any, .any, .any, .any, .any, .any, .any, .any, .any, .any, .any, .any, .any, .any, .any, .any, .any, .any, .any, .any, .any, .any, .any, .any, .any, .any, .any, .any, .any, .any, .any, .any, .any, .any, .any, .any, .any, .any, .any, .any, .any, .any, .any, .any, .any, .any, .any, .any, .any, .any, .any], [.ex false [.c (.sc (.int .i64 x94)), .c (.sc (.bool x95)), .c (.sc (.int .u32 x96)), .c (.sc (.int .i64 x97)), .c (.sc (.int .i64 x98)), .c (.sc (.bool x99))] 26], 0⟩))))))))))) ∧ (((IntKind.wrap .i64 ((Int.tmod (IntKind.wrap .u64 ((List.getD a0 (Int.toNat x103) ((0 : Int), ((0 : Int), ((0 : Int), (0 : Int))))).1)) (6 : Int)))) == (2 : Int)) = false → (True) ∧ ((((IntKind.wrap .i64 ((Int.tmod (IntKind.wrap .u64 ((List.getD a0 (Int.toNat x103) ((0 : Int), ((0 : Int), ((0 : Int), (0 : Int))))).1)) (6 : Int)))) == (3 : Int)) = true → (∃ t270 : Int × Bool × Int × Int × Int × Bool × (Option Int), (True) ∧ (0 ≤ x103 ∧ x103 < (((List.length a0) : Nat) : Int)) ∧ (True) ∧ (True) ∧ ((3 : Int) ≠ 0) ∧ (True) ∧ (Fun cfg 12 [.agg [.c (.sc (.int .i64 x94)), .c (.sc (.bool x95)), .c (.sc (.int .u32 x96)), .c (.sc (.int .i64 x97)), .c (.sc (.int .i64 x98)), .c (.sc (.bool x99))], .one (.sc (.int .i64 (IntKind.wrap .i64 ((Int.tmod (IntKind.wrap .u64 ((List.getD a0 (Int.toNat x103) ((0 : Int), ((0 : Int), ((0 : Int), (0 : Int))))).2.2.1)) (3 : Int)))))), .one (.sc (.int .i64 (IntKind.wrap .i64 ((1 : Int) + (IntKind.wrap .i64 ((Int.tmod (IntKind.wrap .u64 ((List.getD a0 (Int.toNat x103) ((0 : Int), ((0 : Int), ((0 : Int), (0 : Int))))).2.2.2)) (31 : Int))))))))] [] (trace_Resume.R t270) [] ∧ True) ∧ (True) ∧ (True) ∧ (True) ∧ (((!((Option.isNone t270.2.2.2.2.2.2) == x101)) = true → (True ∧ (((True) ∧ (True) ∧ True) ∧ halterlaw27_TraceOnce.l0_Q a0 r .ret ⟨[.any, .any, .v (.one (.sc (.bool false))), .any, .any, .any, .any, .any, .any, .any, .any, .any, .any, .any, .any, .any, .any, .any, .any, .any, .any, .any, .any, .any, .any, .any, .any, .any, .any, .any, .any, .any, .any, .any, .any, .any, .any, .any, .any, .any, .any, .any, .any, .any, .any, .any, .any, .any, .any, .any, .any, .any, .any, .any, .any, .any, .any, .any, .any, .any, .any, .any, .any, .any, .any, .any, .any, .any, .any, .any, .any, .any, .any, .any, .any, .any, .any, .any, .any, .any, .any, .any, .any, .any, .any, .any, .any, .any, .any, .any, .any, .any, .any, .any, .any, .any, .any, .any, .any, .any, .any, .any, .any, .any, .any, .any, .any, .any, .any, .any, .any, .any, .any, .any, .any, .any, .any, .any, .any, .any, .any, .any, .any, .any, .any, .any, .any, .any, .any, .any, .any, .any, .any, .any, .any, .any, .any, .any, .any, .any, .any, .any, .any, .any, .any, .any, .any, .any, .any, .any, .any, .any, .any, .any, .any, .any, .any, .any, .any, .any, .any, .any, .any, .any, .any, .any, .any, .any, .any, .any, .any, .any, .any, .any, .any, .any, .any], [.ex false [.c (.sc (.int .i64 x94)), .c (.sc (.bool x95)), .c (.sc (.int .u32 x96)), .c (.sc (.int .i64 x97)), .c (.sc (.int .i64 x98)), .c (.sc (.bool x99))] 26], 0⟩))) ∧ ((!((Option.isNone t270.2.2.2.2.2.2) == x101)) = false → (True) ∧ (((Option.isNone t270.2.2.2.2.2.2) = true → (True) ∧ ((Option.isNone t270.2.2.2.2.2.2) = true ∧ (True) ∧ (True) ∧ (True) ∧ (∃ t273 : (Option Int), (Fun cfg 18 [.agg [.c (.sc (.int .i64 t270.1)), .c (.sc (.bool t270.2.1)), .c (.sc (.int .u32 t270.2.2.1)), .c (.sc (.int .i64 t270.2.2.2.1)), .c (.sc (.int .i64 t270.2.2.2.2.1)), .c (.sc (.bool t270.2.2.2.2.2.1))]] [] (trace_Check.R t273) [] ∧ True) ∧ (True) ∧ (((!(Option.isNone t273)) = false → ((!(Option.isNone t273)) = false ∧ (True) ∧ ((!(Option.isNone t273)) = false ∧ ((!(Option.isNone t273)) = false ∧ (True) ∧ ((!(Option.isNone t273)) = false ∧ (((!(t270.2.1 == false)) = false → ((!(t270.2.1 == false)) = false ∧ (True) ∧ ((!(t270.2.1 == false)) = false ∧ (True) ∧ ((!(t270.2.1 == false)) = false ∧ ((!(t270.2.1 == false)) = false ∧ (True) ∧ ((!(t270.2.1 == false)) = false ∧ (((!((t270.2.2.1 != (0 : Int)) == false)) = false → ((!((t270.2.2.1 != (0 : Int)) == false)) = false ∧ (True) ∧ ((!((t270.2.2.1 != (0 : Int)) == false)) = false ∧ (True) ∧ ((!((t270.2.2.1 != (0 : Int)) == false)) = false ∧ ((!((t270.2.2.1 != (0 : Int)) == false)) = false ∧ (True) ∧ ((!((t270.2.2.1 != (0 : Int)) == false)) = false ∧ (((!((t270.1 != (0 : Int)) == x100)) = true → (True ∧ (((True) ∧ (True) ∧ True) ∧ halterlaw27_TraceOnce.l0_Q a0 r .ret ⟨[.any, .any, .v (.one (.sc (.bool false))), .any, .any, .any, .any, .any, .any, .any, .any, .any, .any, .any, .any, .any, .any, .any, .any, .any, .any, .any, .any, .any, .any, .any, .any, .any, .any, .any, .any, .any, .any, .any, .any, .any, .any, .any, .any, .any, .any, .any, .any, .any, .any, .any, .any, .any, .any, .any, .any, .any, .any, .any, .any, .any, .any, .any, .any, .any, .any, .any, .any, .any, .any, .any, .any, .any, .any, .any, .any, .any, .any, .any, .any, .any, .any, .any, .any, .any, .any, .any, .any, .any, .any, .any, .any, .any, .any, .any, .any, .any, .any, .any, .any, .any, .any, .any, .any, .any, .any, .any, .any, .any, .any, .any, .any, .any, .any, .any, .any, .any, .any, .any, .any, .any, .any, .any, .any, .any, .any, .any, .any, .any, .any, .any, .any, .any, .any, .any, .any, .any, .any, .any, .any, .any, .any, .any, .any, .any, .any, .any, .any, .any, .any, .any, .any, .any, .any, .any, .any, .any, .any, .any, .any, .any, .any, .any, .any, .any, .any, .any, .any, .any, .any, .any, .any, .any, .any, .any, .any, .any, .any, .any, .any, .any, .any], [.ex false [.c (.sc (.int .i64 t270.1)), .c (.sc (.bool t270.2.1)), .c (.sc (.int .u32 t270.2.2.1)), .c (.sc (.int .i64 t270.2.2.2.1)), .c (.sc (.int .i64 t270.2.2.2.2.1)), .c (.sc (.bool t270.2.2.2.2.2.1))] 26], 0⟩))) ∧ ((!((t270.1 != (0 : Int)) == x100)) = false → (True ∧ (True ∧ (True) ∧ (((True) ∧ (True) ∧ True) ∧ TripN cfg (cpath (Tryd.f4.body.getD .skip) [1, 1, 1, 0, 1, 0, 0]) n (halterlaw27_TraceOnce.l0_S a0 t270.1 t270.2.1 t270.2.2.1 t270.2.2.2.1 t270.2.2.2.2.1 t270.2.2.2.2.2.1 x100 false false (IntKind.wrap .i64 (x103 + (1 : Int)))) (halterlaw27_TraceOnce.l0_Q a0 r)))))))))))) ∧ ((!((t270.2.2.1 != (0 : Int)) == false)) = true → ((!((t270.2.2.1 != (0 : Int)) == false)) = true ∧ ((!((t270.2.2.1 != (0 : Int)) == false)) = true ∧ ((!((t270.2.2.1 != (0 : Int)) == false)) = true ∧ ((!((t270.2.2.1 != (0 : Int)) == false)) = true ∧ ((!((t270.2.2.1 != (0 : Int)) == false)) = true ∧ (true = true ∧ (True ∧ (((True) ∧ (True) ∧ True) ∧ halterlaw27_TraceOnce.l0_Q a0 r .ret ⟨[.any, .any, .v (.one (.sc (.bool false))), .any, .any, .any, .any, .any, .any, .any, .any, .any, .any, .any, .any, .any, .any, .any, .any, .any, .any, .any, .any, .any, .any, .any, .any, .any, .any, .any, .any, .any, .any, .any, .any, .any, .any, .any, .any, .any, .any, .any, .any, .any, .any, .any, .any, .any, .any, .any, .any, .any, .any, .any, .any, .any, .any, .any, .any, .any, .any, .any, .any, .any, .any, .any, .any, .any, .any, .any, .any, .any, .any, .any, .any, .any, .any, .any, .any, .any, .any, .any, .any, .any, .any, .any, .any, .any, .any, .any, .any, .any, .any, .any, .any, .any, .any, .any, .any, .any, .any, .any, .any, .any, .any, .any, .any, .any, .any, .any, .any, .any, .any, .any, .any, .any, .any, .any, .any, .any, .any, .any, .any, .any, .any, .any, .any, .any, .any, .any, .any, .any, .any, .any, .any, .any, .any, .any, .any, .any, .any, .any, .any, .any, .any, .any, .any, .any, .any, .any, .any, .any, .any, .any, .any, .any, .any, .any, .any, .any, .any, .any, .any, .any, .any, .any, .any, .any, .any, .any, .any, .any, .any, .any, .any, .any, .any], [.ex false [.c (.sc (.int .i64 t270.1)), .c (.sc (.bool t270.2.1)), .c (.sc (.int .u32 t270.2.2.1)), .c (.sc (.int .i64 t270.2.2.2.1)), .c (.sc (.int .i64 t270.2.2.2.2.1)), .c (.sc (.bool t270.2.2.2.2.2.1))] 26], 0⟩)))))))))))))))) ∧ ((!(t270.2.1 == false)) = true → ((!(t270.2.1 == false)) = true ∧ ((!(t270.2.1 == false)) = true ∧ ((!(t270.2.1 == false)) = true ∧ ((!(t270.2.1 == false)) = true ∧ ((!(t270.2.1 == false)) = true ∧ (true = true ∧ (true = true ∧ (true = true ∧ (true = true ∧ (true = true ∧ (true = true ∧ (true = true ∧ (True ∧ (((True) ∧ (True) ∧ True) ∧ halterlaw27_TraceOnce.l0_Q a0 r .ret ⟨[.any, .any, .v (.one (.sc (.bool false))), .any, .any, .any, .any, .any, .any, .any, .any, .any, .any, .any, .any, .any, .any, .any, .any, .any, .any, .any, .any, .any, .any, .any, .any, .any, .any, .any, .any, .any, .any, .any, .any, .any, .any, .any, .any, .any, .any, .any, .any, .any, .any, .any, .any, .any, .any, .any, .any, .any, .any, .any, .any, .any, .any, .any, .any, .any, .any, .any, .any, .any, .any, .any, .any, .any, .any, .any, .any, .any, .any, .any, .any, .any, .any, .any, .any, .any, .any, .any, .any, .any, .any, .any, .any, .any, .any, .any, .any, .any, .any, .any, .any, .any, .any, .any, .any, .any, .any, .any, .any, .any, .any, .any, .any, .any, .any, .any, .any, .any, .any, .any, .any, .any, .any, .any, .any, .any, .any, .any, .any, .any, .any, .any, .any, .any, .any, .any, .any, .any, .any, .any, .any, .any, .any, .any, .any, .any, .any, .any, .any, .any, .any, .any, .any, .any, .any, .any, .any, .any, .any, .any, .any, .any, .any, .any, .any, .any, .any, .any, .any, .any, .any, .any, .any, .any, .any, .any, .any, .any, .any, .any, .any, .any, .any], [.ex false [.c (.sc (.int .i64 t270.1)), .c (.sc (.bool t270.2.1)), .c (.sc (.int .u32 t270.2.2.1)), .c (.sc (.int .i64 t270.2.2.2.1)), .c (.sc (.int .i64 t270.2.2.2.2.1)), .c (.sc (.bool t270.2.2.2.2.2.1))] 26], 0⟩))))))))))))))))))))) ∧ ((!(Option.isNone t273)) = true → ((!(Option.isNone t273)) = true ∧ ((!(Option.isNone t273)) = true ∧ ((!(Option.isNone t273)) = true ∧ ((!(Option.isNone t273)) = true ∧ (true = true ∧ (true = true ∧ (true = true ∧ (true = true ∧ (true = true ∧ (true = true ∧ (true = true ∧ (true = true ∧ (true = true ∧ (true = true ∧ (true = true ∧ (true = true ∧ (true = true ∧ (True ∧ (((True) ∧ (True) ∧ True) ∧ halterlaw27_TraceOnce.l0_Q a0 r .ret ⟨[.any, .any, .v (.one (.sc (.bool false))), .any, .any, .any, .any, .any, .any, .any, .any, .any, .any, .any, .any, .any, .any, .any, .any, .any, .any, .any, .any, .any, .any, .any, .any, .any, .any, .any, .any, .any, .any, .any, .any, .any, .any, .any, .any, .any, .any, .any, .any, .any, .any, .any, .any, .any, .any, .any, .any, .any, .any, .any, .any, .any, .any, .any, .any, .any, .any, .any, .any, .any, .any, .any, .any, .any, .any, .any, .any, .any, .any, .any, .any, .any, .any, .any, .any, .any, .any, .any, .any, .any, .any, .any, .any, .any, .any, .any, .any, .any, .any, .any, .any, .any, .any, .any, .any, .any, .any, .any, .any, .any, .any, .any, .any, .any, .any, .any, .any, .any, .any, .any, .any, .any, .any, .any, .any, .any, .any, .any, .any, .any, .any, .any, .any, .any, .any, .any, .any, .any, .any, .any, .any, .any, .any, .any, .any, .any, .any, .any, .any, .any, .any, .any, .any, .any, .any, .any, .any, .any, .any, .any, .any, .any, .any, .any, .any, .any, .any, .any, .any, .any, .any, .any, .any, .any, .any, .any, .any, .any, .any, .any, .any, .any, .any], [.ex false [.c (.sc (.int .i64 t270.1)), .c (.sc (.bool t270.2.1)), .c (.sc (.int .u32 t270.2.2.1)), .c (.sc (.int .i64 t270.2.2.2.1)), .c (.sc (.int .i64 t270.2.2.2.2.1)), .c (.sc (.bool t270.2.2.2.2.2.1))] 26], 0⟩)))))))))))))))))))))))) ∧ ((Option.isNone t270.2.2.2.2.2.2) = false → (True) ∧ ((Option.isNone t270.2.2.2.2.2.2) = false ∧ (True) ∧ (∃ t278 : (Option Int), (Fun cfg 18 [.agg [.c (.sc (.int .i64 x94)), .c (.sc (.bool x95)), .c (.sc (.int .u32 x96)), .c (.sc (.int .i64 x97)), .c (.sc (.int .i64 x98)), .c (.sc (.bool x99))]] [] (trace_Check.R t278) [] ∧ True) ∧ (True) ∧ (((!(Option.isNone t278)) = false → ((!(Option.isNone t278)) = false ∧ (True) ∧ ((!(Option.isNone t278)) = false ∧ ((!(Option.isNone t278)) = false ∧ (True) ∧ ((!(Option.isNone t278)) = false ∧ (((!(x95 == x101)) = false → ((!(x95 == x101)) = false ∧ (True) ∧ ((!(x95 == x101)) = false ∧ (True) ∧ ((!(x95 == x101)) = false ∧ ((!(x95 == x101)) = false ∧ (True) ∧ ((!(x95 == x101)) = false ∧ (((!((x96 != (0 : Int)) == x102)) = false → ((!((x96 != (0 : Int)) == x102)) = false ∧ (True) ∧ ((!((x96 != (0 : Int)) == x102)) = false ∧ (True) ∧ ((!((x96 != (0 : Int)) == x102)) = false ∧ ((!((x96 != (0 : Int)) == x102)) = false ∧ (True) ∧ ((!((x96 != (0 : Int)) == x102)) = false ∧ (((!((x94 != (0 : Int)) == x100)) = true → (True ∧ (((True) ∧ (True) ∧ True) ∧ halterlaw27_TraceOnce.l0_Q a0 r .ret ⟨[.any, .any, .v (.one (.sc (.bool false))), .any, .any, .any, .any, .any, .any, .any, .any, .any, .any, .any, .any, .any, .any, .any, .any, .any, .any, .any, .any, .any, .any, .any, .any, .any, .any, .any, .any, .any, .any, .any, .any, .any, .any, .any, .any, .any, .any, .any, .any, .any, .any, .any, .any, .any, .any, .any, .any, .any, .any, .any, .any, .any, .any, .any, .any, .any, .any, .any, .any, .any, .any, .any, .any, .any, .any, .any, .any, .any, .any, .any, .any, .any, .any, .any, .any, .any, .any, .any, .any, .any, .any, .any, .any, .any, .any, .any, .any, .any, .any, .any, .any, .any, .any, .any, .any, .any, .any, .any, .any, .any, .any, .any, .any, .any, .any, .any, .any, .any, .any, .any, .any, .any, .any, .any, .any, .any, .any, .any, .any, .any, .any, .any, .any, .any, .any, .any, .any, .any, .any, .any, .any, .any, .any, .any, .any, .any, .any, .any, .any, .any, .any, .any, .any, .any, .any, .any, .any, .any, .any, .any, .any, .any, .any, .any, .any, .any, .any, .any, .any, .any, .any, .any, .any, .any, .any, .any, .any, .any, .any, .any, .any, .any, .any], [.ex false [.c (.sc (.int .i64 x94)), .c (.sc (.bool x95)), .c (.sc (.int .u32 x96)), .c (.sc (.int .i64 x97)), .c (.sc (.int .i64 x98)), .c (.sc (.bool x99))] 26], 0⟩))) ∧ ((!((x94 != (0 : Int)) == x100)) = false → (True ∧ (True ∧ (True) ∧ (((True) ∧ (True) ∧ True) ∧ TripN cfg (cpath (Tryd.f4.body.getD .skip) [1, 1, 1, 0, 1, 0, 0]) n (halterlaw27_TraceOnce.l0_S a0 x94 x95 x96 x97 x98 x99 x100 x101 x102 (IntKind.wrap .i64 (x103 + (1 : Int)))) (halterlaw27_TraceOnce.l0_Q a0 r)))))))))))) ∧ ((!((x96 != (0 : Int)) == x102)) = true → ((!((x96 != (0 : Int)) == x102)) = true ∧ ((!((x96 != (0 : Int)) == x102)) = true ∧ ((!((x96 != (0 : Int)) == x102)) = true ∧ ((!((x96 != (0 : Int)) == x102)) = true ∧ ((!((x96 != (0 : Int)) == x102)) = true ∧ (true = true ∧ (True ∧ (((True) ∧ (True) ∧ True) ∧ halterlaw27_TraceOnce.l0_Q a0 r .ret ⟨[.any, .any, .v (.one (.sc (.bool false))), .any, .any, .any, .any, .any, .any, .any, .any, .any, .any, .any, .any, .any, .any, .any, .any, .any, .any, .any, .any, .any, .any, .any, .any, .any, .any, .any, .any, .any, .any, .any, .any, .any, .any, .any, .any, .any, .any, .any, .any, .any, .any, .any, .any, .any, .any, .any, .any, .any, .any, .any, .any, .any, .any, .any, .any, .any, .any, .any, .any, .any, .any, .any, .any, .any, .any, .any, .any, .any, .any, .any, .any, .any, .any, .any, .any, .any, .any, .any, .any, .any, .any, .any, .any, .any, .any, .any, .any, .any, .any, .any, .any, .any, .any, .any, .any, .any, .any, .any, .any, .any, .any, .any, .any, .any, .any, .any, .any, .any, .any, .any, .any, .any, .any, .any, .any, .any, .any, .any, .any, .any, .any, .any, .any, .any, .any, .any, .any, .any, .any, .any, .any, .any, .any, .any, .any, .any, .any, .any, .any, .any, .any, .any, .any, .any, .any, .any, .any, .any, .any, .any, .any, .any, .any, .any, .any, .any, .any, .any, .any, .any, .any, .any, .any, .any, .any, .any, .any, .any, .any, .any, .any, .any, .any], [.ex false [.c (.sc (.int .i64 x94)), .c (.sc (.bool x95)), .c (.sc (.int .u32 x96)), .c (.sc (.int .i64 x97)), .c (.sc (.int .i64 x98)), .c (.sc (.bool x99))] 26], 0⟩)))))))))))))))) ∧ ((!(x95 == x101)) = true → ((!(x95 == x101)) = true ∧ ((!(x95 == x101)) = true ∧ ((!(x95 == x101)) = true ∧ ((!(x95 == x101)) = true ∧ ((!(x95 == x101)) = true ∧ (true = true ∧ (true = true ∧ (true = true ∧ (true = true ∧ (true = true ∧ (true = true ∧ (true = true ∧ (True ∧ (((True) ∧ (True) ∧ True) ∧ halterlaw27_TraceOnce.l0_Q a0 r .ret ⟨[.any, .any, .v (.one (.sc (.bool false))), .any, .any, .any, .any, .any, .any, .any, .any, .any, .any, .any, .any, .any, .any, .any, .any, .any, .any, .any, .any, .any, .any, .any, .any, .any, .any, .any, .any, .any, .any, .any, .any, .any, .any, .any, .any, .any, .any, .any, .any, .any, .any, .any, .any, .any, .any, .any, .any, .any, .any, .any, .any, .any, .any, .any, .any, .any, .any, .any, .any, .any, .any, .any, .any, .any, .any, .any, .any, .any, .any, .any, .any, .any, .any, .any, .any, .any, .any, .any, .any, .any, .any, .any, .any, .any, .any, .any, .any, .any, .any, .any, .any, .any, .any, .any, .any, .any, .any, .any, .any, .any, .any, .any, .any, .any, .any, .any, .any, .any, .any, .any, .any, .any, .any, .any, .any, .any, .any, .any, .any, .any, .any, .any, .any, .any, .any, .any, .any, .any, .any, .any, .any, .any, .any, .any, .any, .any, .any, .any, .any, .any, .any, .any, .any, .any, .any, .any, .any, .any, .any, .any, .any, .any, .any, .any, .any, .any, .any, .any, .any, .any, .any, .any, .any, .any, .any, .any, .any, .any, .any, .any, .any, .any, .any], [.ex false [.c (.sc (.int .i64 x94)), .c (.sc (.bool x95)), .c (.sc (.int .u32 x96)), .c (.sc (.int .i64 x97)), .c (.sc (.int .i64 x98)), .c (.sc (.bool x99))] 26], 0⟩))))))))))))))))))))) ∧ ((!(Option.isNone t278)) = true → ((!(Option.isNone t278)) = true ∧ ((!(Option.isNone t278)) = true ∧ ((!(Option.isNone t278)) = true ∧ ((!(Option.isNone t278)) = true ∧ (true = true ∧ (true = true ∧ (true = true ∧ (true = true ∧ (true = true ∧ (true = true ∧ (true = true ∧ (true = true ∧ (true = true ∧ (true = true ∧ (true = true ∧ (true = true ∧ (true = true ∧ (True ∧ (((True) ∧ (True) ∧ True) ∧ halterlaw27_TraceOnce.l0_Q a0 r .ret ⟨[.any, .any, .v (.one (.sc (.bool false))), .any, .any, .any, .any, .any, .any, .any, .any, .any, .any, .any, .any, .any, .any, .any, .any, .any, .any, .any, .any, .any, .any, .any, .any, .any, .any, .any, .any, .any, .any, .any, .any, .any, .any, .any, .any, .any, .any, .any, .any, .any, .any, .any, .any, .any, .any, .any, .any, .any, .any, .any, .any, .any, .any, .any, .any, .any, .any, .any, .any, .any, .any, .any, .any, .any, .any, .any, .any, .any, .any, .any, .any, .any, .any, .any, .any, .any, .any, .any, .any, .any, .any, .any, .any, .any, .any, .any, .any, .any, .any, .any, .any, .any, .any, .any, .any, .any, .any, .any, .any, .any, .any, .any, .any, .any, .any, .any, .any, .any, .any, .any, .any, .any, .any, .any, .any, .any, .any, .any, .any, .any, .any, .any, .any, .any, .any, .any, .any, .any, .any, .any, .any, .any, .any, .any, .any, .any, .any, .any, .any, .any, .any, .any, .any, .any, .any, .any, .any, .any, .any, .any, .any, .any, .any, .any, .any, .any, .any, .any, .any, .any, .any, .any, .any, .any, .any, .any, .any, .any, .any, .any, .any, .any, .any], [.ex false [.c (.sc (.int .i64 x94)), .c (.sc (.bool x95)), .c (.sc (.int .u32 x96)), .c (.sc (.int .i64 x97)), .c (.sc (.int .i64 x98)), .c (.sc (.bool x99))] 26], 0⟩))))))))))))))))))))))))))))) ∧ (((IntKind.wrap .i64 ((Int.tmod (IntKind.wrap .u64 ((List.getD a0 (Int.toNat x103) ((0 : Int), ((0 : Int), ((0 : Int), (0 : Int))))).1)) (6 : Int)))) == (3 : Int)) = false → (True) ∧ ((((IntKind.wrap .i64 ((Int.tmod (IntKind.wrap .u64 ((List.getD a0 (Int.toNat x103) ((0 : Int), ((0 : Int), ((0 : Int), (0 : Int))))).1)) (6 : Int)))) == (4 : Int)) = true → (True) ∧ (∃ t284 : Int × Bool × Int × Int × Int × Bool, (Fun cfg 17 [.agg [.c (.sc (.int .i64 x94)), .c (.sc (.bool x95)), .c (.sc (.int .u32 x96)), .c (.sc (.int .i64 x97)), .c (.sc (.int .i64 x98)), .c (.sc (.bool x99))]] [] (trace_Free.R t284) [] ∧ True) ∧ (True) ∧ (True) ∧ (true = true ∧ (True) ∧ (True) ∧ (True) ∧ (∃ t285 : (Option Int), (Fun cfg 18 [.agg [.c (.sc (.int .i64 t284.1)), .c (.sc (.bool t284.2.1)), .c (.sc (.int .u32 t284.2.2.1)), .c (.sc (.int .i64 t284.2.2.2.1)), .c (.sc (.int .i64 t284.2.2.2.2.1)), .c (.sc (.bool t284.2.2.2.2.2))]] [] (trace_Check.R t285) [] ∧ True) ∧ (True) ∧ (((!(Option.isNone t285)) = false → ((!(Option.isNone t285)) = false ∧ (True) ∧ ((!(Option.isNone t285)) = false ∧ ((!(Option.isNone t285)) = false ∧ (True) ∧ ((!(Option.isNone t285)) = false ∧ (((!(t284.2.1 == false)) = false → ((!(t284.2.1 == false)) = false ∧ (True) ∧ ((!(t284.2.1 == false)) = false ∧ (True) ∧ ((!(t284.2.1 == false)) = false ∧ ((!(t284.2.1 == false)) = false ∧ (True) ∧ ((!(t284.2.1 == false)) = false ∧ (((!((t284.2.2.1 != (0 : Int)) == false)) = false → ((!((t284.2.2.1 != (0 : Int)) == false)) = false ∧ (True) ∧ ((!((t284.2.2.1 != (0 : Int)) == false)) = false ∧ (True) ∧ ((!((t284.2.2.1 != (0 : Int)) == false)) = false ∧ ((!((t284.2.2.1 != (0 : Int)) == false)) = false ∧ (True) ∧ ((!((t284.2.2.1 != (0 : Int)) == false)) = false ∧ (((!((t284.1 != (0 : Int)) == false)) = true → (True ∧ (((True) ∧ (True) ∧ True) ∧ halterlaw27_TraceOnce.l0_Q a0 r .ret ⟨[.any, .any, .v (.one (.sc (.bool false))), .any, .any, .any, .any, .any, .any, .any, .any, .any, .any, .any, .any, .any, .any, .any, .any, .any, .any, .any, .any, .any, .any, .any, .any, .any, .any, .any, .any, .any, .any, .any, .any, .any, .any, .any, .any, .any, .any, .any, .any, .any, .any, .any, .any, .any, .any, .any, .any, .any, .any, .any, .any, .any, .any, .any, .any, .any, .any, .any, .any, .any, .any, .any, .any, .any, .any, .any, .any, .any, .any, .any, .any, .any, .any, .any, .any, .any, .any, .any, .any, .any, .any, .any, .any, .any, .any, .any, .any, .any, .any, .any, .any, .any, .any, .any, .any, .any, .any, .any, .any, .any, .any, .any, .any, .any, .any, .any, .any, .any, .any, .any, .any, .any, .any, .any, .any, .any, .any, .any, .any, .any, .any, .any, .any, .any, .any, .any, .any, .any, .any, .any, .any, .any, .any, .any, .any, .any, .any, .any, .any, .any, .any, .any, .any, .any, .any, .any, .any, .any, .any, .any, .any, .any, .any, .any, .any, .any, .any, .any, .any, .any, .any, .any, .any, .any, .any, .any, .any, .any, .any, .any, .any, .any, .any], [.ex false [.c (.sc (.int .i64 t284.1)), .c (.sc (.bool t284.2.1)), .c (.sc (.int .u32 t284.2.2.1)), .c (.sc (.int .i64 t284.2.2.2.1)), .c (.sc (.int .i64 t284.2.2.2.2.1)), .c (.sc (.bool t284.2.2.2.2.2))] 26], 0⟩))) ∧ ((!((t284.1 != (0 : Int)) == false)) = false → (True ∧ (True ∧ (True) ∧ (((True) ∧ (True) ∧ True) ∧ TripN cfg (cpath (Tryd.f4.body.getD .skip) [1, 1, 1, 0, 1, 0, 0]) n (halterlaw27_TraceOnce.l0_S a0 t284.1 t284.2.1 t284.2.2.1 t284.2.2.2.1 t284.2.2.2.2.1 t284.2.2.2.2.2 false false false (IntKind.wrap .i64 (x103 + (1 : Int)))) (halterlaw27_TraceOnce.l0_Q a0 r)))))))))))) ∧ ((!((t284.2.2.1 != (0 : Int)) == false)) = true → ((!((t284.2.2.1 != (0 : Int)) == false)) = true ∧ ((!((t284.2.2.1 != (0 : Int)) == false)) = true ∧ ((!((t284.2.2.1 != (0 : Int)) == false)) = true ∧ ((!((t284.2.2.1 != (0 : Int)) == false)) = true ∧ ((!((t284.2.2.1 != (0 : Int)) == false)) = true ∧ (true = true ∧ (True ∧ (((True) ∧ (True) ∧ True) ∧ halterlaw27_TraceOnce.l0_Q a0 r .ret ⟨[.any, .any, .v (.one (.sc (.bool false))), .any, .any, .any, .any, .any, .any, .any, .any, .any, .any, .any, .any, .any, .any, .any, .any, .any, .any, .any, .any, .any, .any, .any, .any, .any, .any, .any, .any, .any, .any, .any, .any, .any, .any, .any, .any, .any, .any, .any, .any, .any, .any, .any, .any, .any, .any, .any, .any, .any, .any, .any, .any, .any, .any, .any, .any, .any, .any, .any, .any, .any, .any, .any, .any, .any, .any, .any, .any, .any, .any, .any, .any, .any, .any, .any, .any, .any, .any, .any, .any, .any, .any, .any, .any, .any, .any, .any, .any, .any, .any, .any, .any, .any, .any, .any, .any, .any, .any, .any, .any, .any, .any, .any, .any, .any, .any, .any, .any, .any, .any, .any, .any, .any, .any, .any, .any, .any, .any, .any, .any, .any, .any, .any, .any, .any, .any, .any, .any, .any, .any, .any, .any, .any, .any, .any, .any, .any, .any, .any, .any, .any, .any, .any, .any, .any, .any, .any, .any, .any, .any, .any, .any, .any, .any, .any, .any, .any, .any, .any, .any, .any, .any, .any, .any, .any, .any, .any, .any, .any, .any, .any, .any, .any, .any], [.ex false [.c (.sc (.int .i64 t284.1)), .c (.sc (.bool t284.2.1)), .c (.sc (.int .u32 t284.2.2.1)), .c (.sc (.int .i64 t284.2.2.2.1)), .c (.sc (.int .i64 t284.2.2.2.2.1)), .c (.sc (.bool t284.2.2.2.2.2))] 26], 0⟩)))))))))))))))) ∧ ((!(t284.2.1 == false)) = true → ((!(t284.2.1 == false)) = true ∧ ((!(t284.2.1 == false)) = true ∧ ((!(t284.2.1 == false)) = true ∧ ((!(t284.2.1 == false)) = true ∧ ((!(t284.2.1 == false)) = true ∧ (true = true ∧ (true = true ∧ (true = true ∧ (true = true ∧ (true = true ∧ (true = true ∧ (true = true ∧ (True ∧ (((True) ∧ (True) ∧ True) ∧ halterlaw27_TraceOnce.l0_Q a0 r .ret ⟨[.any, .any, .v (.one (.sc (.bool false))), .any, .any, .any, .any, .any, .any, .any, .any, .any, .any, .any, .any, .any, .any, .any, .any, .any, .any, .any, .any, .any, .any, .any, .any, .any, .any, .any, .any, .any, .any, .any, .any, .any, .any, .any, .any, .any, .any, .any, .any, .any, .any, .any, .any, .any, .any, .any, .any, .any, .any, .any, .any, .any, .any, .any, .any, .any, .any, .any, .any, .any, .any, .any, .any, .any, .any, .any, .any, .any, .any, .any, .any, .any, .any, .any, .any, .any, .any, .any, .any, .any, .any, .any, .any, .any, .any, .any, .any, .any, .any, .any, .any, .any, .any, .any, .any, .any, .any, .any, .any, .any, .any, .any, .any, .any, .any, .any, .any, .any, .any, .any, .any, .any, .any, .any, .any, .any, .any, .any, .any, .any, .any, .any, .any, .any, .any, .any, .any, .any, .any, .any, .any, .any, .any, .any, .any, .any, .any, .any, .any, .any, .any, .any, .any, .any, .any, .any, .any, .any, .any, .any, .any, .any, .any, .any, .any, .any, .any, .any, .any, .any, .any, .any, .any, .any, .any, .any, .any, .any, .any, .any, .any, .any, .any], [.ex false [.c (.sc (.int .i64 t284.1)), .c (.sc (.bool t284.2.1)), .c (.sc (.int .u32 t284.2.2.1)), .c (.sc (.int .i64 t284.2.2.2.1)), .c (.sc (.int .i64 t284.2.2.2.2.1)), .c (.sc (.bool t284.2.2.2.2.2))] 26], 0⟩))))))))))))))))))))) ∧ ((!(Option.isNone t285)) = true → ((!(Option.isNone t285)) = true ∧ ((!(Option.isNone t285)) = true ∧ ((!(Option.isNone t285)) = true ∧ ((!(Option.isNone t285)) = true ∧ (true = true ∧ (true = true ∧ (true = true ∧ (true = true ∧ (true = true ∧ (true = true ∧ (true = true ∧ (true = true ∧ (true = true ∧ (true = true ∧ (true = true ∧ (true = true ∧ (true = true ∧ (True ∧ (((True) ∧ (True) ∧ True) ∧ halterlaw27_TraceOnce.l0_Q a0 r .ret ⟨[.any, .any, .v (.one (.sc (.bool false))), .any, .any, .any, .any, .any, .any, .any, .any, .any, .any, .any, .any, .any, .any, .any, .any, .any, .any, .any, .any, .any, .any, .any, .any, .any, .any, .any, .any, .any, .any, .any, .any, .any, .any, .any, .any, .any, .any, .any, .any, .any, .any, .any, .any, .any, .any, .any, .any, .any, .any, .any, .any, .any, .any, .any, .any, .any, .any, .any, .any, .any, .any, .any, .any, .any, .any, .any, .any, .any, .any, .any, .any, .any, .any, .any, .any, .any, .any, .any, .any, .any, .any, .any, .any, .any, .any, .any, .any, .any, .any, .any, .any, .any, .any, .any, .any, .any, .any, .any, .any, .any, .any, .any, .any, .any, .any, .any, .any, .any, .any, .any, .any, .any, .any, .any, .any, .any, .any, .any, .any, .any, .any, .any, .any, .any, .any, .any, .any, .any, .any, .any, .any, .any, .any, .any, .any, .any, .any, .any, .any, .any, .any, .any, .any, .any, .any, .any, .any, .any, .any, .any, .any, .any, .any, .any, .any, .any, .any, .any, .any, .any, .any, .any, .any, .any, .any, .any, .any, .any, .any, .any, .any, .any, .any], [.ex false [.c (.sc (.int .i64 t284.1)), .c (.sc (.bool t284.2.1)), .c (.sc (.int .u32 t284.2.2.1)), .c (.sc (.int .i64 t284.2.2.2.1)), .c (.sc (.int .i64 t284.2.2.2.2.1)), .c (.sc (.bool t284.2.2.2.2.2))] 26], 0⟩))))))))))))))))))))))))) ∧ (((IntKind.wrap .i64 ((Int.tmod (IntKind.wrap .u64 ((List.getD a0 (Int.toNat x103) ((0 : Int), ((0 : Int), ((0 : Int), (0 : Int))))).1)) (6 : Int)))) == (4 : Int)) = false → (True) ∧ (∃ t290 : Int × Int × Bool × Int × Int × Int × Bool, (Fun cfg 14 [.agg [.c (.sc (.int .i64 x94)), .c (.sc (.bool x95)), .c (.sc (.int .u32 x96)), .c (.sc (.int .i64 x97)), .c (.sc (.int .i64 x98)), .c (.sc (.bool x99))]] [] (trace_Take.R t290) [] ∧ True) ∧ (True) ∧ (True) ∧ (true = true ∧ (True) ∧ (True) ∧ (True) ∧ (∃ t291 : (Option Int), (Fun cfg 18 [.agg [.c (.sc (.int .i64 t290.2.1)), .c (.sc (.bool t290.2.2.1)), .c (.sc (.int .u32 t290.2.2.2.1)), .c (.sc (.int .i64 t290.2.2.2.2.1)), .c (.sc (.int .i64 t290.2.2.2.2.2.1)), .c (.sc (.bool t290.2.2.2.2.2.2))]] [] (trace_Check.R t291) [] ∧ True) ∧ (True) ∧ (((!(Option.isNone t291)) = false → ((!(Option.isNone t291)) = false ∧ (True) ∧ ((!(Option.isNone t291)) = false ∧ ((!(Option.isNone t291)) = false ∧ (True) ∧ ((!(Option.isNone t291)) = false ∧ (((!(t290.2.2.1 == x101)) = false → ((!(t290.2.2.1 == x101)) = false ∧ (True) ∧ ((!(t290.2.2.1 == x101)) = false ∧ (True) ∧ ((!(t290.2.2.1 == x101)) = false ∧ ((!(t290.2.2.1 == x101)) = false ∧ (True) ∧ ((!(t290.2.2.1 == x101)) = false ∧ (((!((t290.2.2.2.1 != (0 : Int)) == x102)) = false → ((!((t290.2.2.2.1 != (0 : Int)) == x102)) = false ∧ (True) ∧ ((!((t290.2.2.2.1 != (0 : Int)) == x102)) = false ∧ (True) ∧ ((!((t290.2.2.2.1 != (0 : Int)) == x102)) = false ∧ ((!((t290.2.2.2.1 != (0 : Int)) == x102)) = false ∧ (True) ∧ ((!((t290.2.2.2.1 != (0 : Int)) == x102)) = false ∧ (((!((t290.2.1 != (0 : Int)) == x100)) = true → (True ∧ (((True) ∧ (True) ∧ True) ∧ halterlaw27_TraceOnce.l0_Q a0 r .ret ⟨[.any, .any, .v (.one (.sc (.bool false))), .any, .any, .any, .any, .any, .any, .any, .any, .any, .any, .any, .any, .any, .any, .any, .any, .any, .any, .any, .any, .any, .any, .any, .any, .any, .any, .any, .any, .any, .any, .any, .any, .any, .any, .any, .any, .any, .any, .any, .any, .any, .any, .any, .any, .any, .any, .any, .any, .any, .any, .any, .any, .any, .any, .any, .any, .any, .any, .any, .any, .any, .any, .any, .any, .any, .any, .any, .any, .any, .any, .any, .any, .any, .any, .any, .any, .any, .any, .any, .any, .any, .any, .any, .any, .any, .any, .any, .any, .any, .any, .any, .any, .any, .any, .any, .any, .any, .any, .any, .any, .any, .any, .any, .any, .any, .any, .any, .any, .any, .any, .any, .any, .any, .any, .any, .any, .any, .any, .any, .any, .any, .any, .any, .any, .any, .any, .any, .any, .any, .any, .any, .any, .any, .any, .any, .any, .any, .any, .any, .any, .any, .any, .any, .any, .any, .any, .any, .any, .any, .any, .any, .any, .any, .any, .any, .any, .any, .any, .any, .any, .any, .any, .any, .any, .any, .any, .any, .any, .any, .any, .any, .any, .any, .any], [.ex false [.c (.sc (.int .i64 t290.2.1)), .c (.sc (.bool t290.2.2.1)), .c (.sc (.int .u32 t290.2.2.2.1)), .c (.sc (.int .i64 t290.2.2.2.2.1)), .c (.sc (.int .i64 t290.2.2.2.2.2.1)), .c (.sc (.bool t290.2.2.2.2.2.2))] 26], 0⟩))) ∧ ((!((t290.2.1 != (0 : Int)) == x100)) = false → (True ∧ (True ∧ (True) ∧ (((True) ∧ (True) ∧ True) ∧ TripN cfg (cpath (Tryd.f4.body.getD .skip) [1, 1, 1, 0, 1, 0, 0]) n (halterlaw27_TraceOnce.l0_S a0 t290.2.1 t290.2.2.1 t290.2.2.2.1 t290.2.2.2.2.1 t290.2.2.2.2.2.1 t290.2.2.2.2.2.2 x100 x101 x102 (IntKind.wrap .i64 (x103 + (1 : Int)))) (halterlaw27_TraceOnce.l0_Q a0 r)))))))))))) ∧ ((!((t290.2.2.2.1 != (0 : Int)) == x102)) = true → ((!((t290.2.2.2.1 != (0 : Int)) == x102)) = true ∧ ((!((t290.2.2.2.1 != (0 : Int)) == x102)) = true ∧ ((!((t290.2.2.2.1 != (0 : Int)) == x102)) = true ∧ ((!((t290.2.2.2.1 != (0 : Int)) == x102)) = true ∧ ((!((t290.2.2.2.1 != (0 : Int)) == x102)) = true ∧ (true = true ∧ (True ∧ (((True) ∧ (True) ∧ True) ∧ halterlaw27_TraceOnce.l0_Q a0 r .ret ⟨[.any, .any, .v (.one (.sc (.bool false))), .any, .any, .any, .any, .any, .any, .any, .any, .any, .any, .any, .any, .any, .any, .any, .any, .any, .any, .any, .any, .any, .any, .any, .any, .any, .any, .any, .any, .any, .any, .any, .any, .any, .any, .any, .any, .any, .any, .any, .any, .any, .any, .any, .any, .any, .any, .any, .any, .any, .any, .any, .any, .any, .any, .any, .any, .any, .any, .any, .any, .any, .any, .any, .any, .any, .any, .any, .any, .any, .any, .any, .any, .any, .any, .any, .any, .any, .any, .any, .any, .any, .any, .any, .any, .any, .any, .any, .any, .any, .any, .any, .any, .any, .any, .any, .any, .any, .any, .any, .any, .any, .any, .any, .any, .any, .any, .any, .any, .any, .any, .any, .any, .any, .any, .any, .any, .any, .any, .any, .any, .any, .any, .any, .any, .any, .any, .any, .any, .any, .any, .any, .any, .any, .any, .any, .any, .any, .any, .any, .any, .any, .any, .any, .any, .any, .any, .any, .any, .any, .any, .any, .any, .any, .any, .any, .any, .any, .any, .any, .any, .any, .any, .any, .any, .any, .any, .any, .any, .any, .any, .any, .any, .any, .any], [.ex false [.c (.sc (.int .i64 t290.2.1)), .c (.sc (.bool t290.2.2.1)), .c (.sc (.int .u32 t290.2.2.2.1)), .c (.sc (.int .i64 t290.2.2.2.2.1)), .c (.sc (.int .i64 t290.2.2.2.2.2.1)), .c (.sc (.bool t290.2.2.2.2.2.2))] 26], 0⟩)))))))))))))))) ∧ ((!(t290.2.2.1 == x101)) = true → ((!(t290.2.2.1 == x101)) = true ∧ ((!(t290.2.2.1 == x101)) = true ∧ ((!(t290.2.2.1 == x101)) = true ∧ ((!(t290.2.2.1 == x101)) = true ∧ ((!(t290.2.2.1 == x101)) = true ∧ (true = true ∧ (true = true ∧ (true = true ∧ (true = true ∧ (true = true ∧ (true = true ∧ (true = true ∧ (True ∧ (((True) ∧ (True) ∧ True) ∧ halterlaw27_TraceOnce.l0_Q a0 r .ret ⟨[.any, .any, .v (.one (.sc (.bool false))), .any, .any, .any, .any, .any, .any, .any, .any, .any, .any, .any, .any, .any, .any, .any, .any, .any, .any, .any, .any, .any, .any, .any, .any, .any, .any, .any, .any, .any, .any, .any, .any, .any, .any, .any, .any, .any, .any, .any, .any, .any, .any, .any, .any, .any, .any, .any, .any, .any, .any, .any, .any, .any, .any, .any, .any, .any, .any, .any, .any, .any, .any, .any, .any, .any, .any, .any, .any, .any, .any, .any, .any, .any, .any, .any, .any, .any, .any, .any, .any, .any, .any, .any, .any, .any, .any, .any, .any, .any, .any, .any, .any, .any, .any, .any, .any, .any, .any, .any, .any, .any, .any, .any, .any, .any, .any, .any, .any, .any, .any, .any, .any, .any, .any, .any, .any, .any, .any, .any, .any, .any, .any, .any, .any, .any, .any, .any, .any, .any, .any, .any, .any, .any, .any, .any, .any, .any, .any, .any, .any, .any, .any, .any, .any, .any, .any, .any, .any, .any, .any, .any, .any, .any, .any, .any, .any, .any, .any, .any, .any, .any, .any, .any, .any, .any, .any, .any, .any, .any, .any, .any, .any, .any, .any], [.ex false [.c (.sc (.int .i64 t290.2.1)), .c (.sc (.bool t290.2.2.1)), .c (.sc (.int .u32 t290.2.2.2.1)), .c (.sc (.int .i64 t290.2.2.2.2.1)), .c (.sc (.int .i64 t290.2.2.2.2.2.1)), .c (.sc (.bool t290.2.2.2.2.2.2))] 26], 0⟩))))))))))))))))))))) ∧ ((!(Option.isNone t291)) = true → ((!(Option.isNone t291)) = true ∧ ((!(Option.isNone t291)) = true ∧ ((!(Option.isNone t291)) = true ∧ ((!(Option.isNone t291)) = true ∧ (true = true ∧ (true = true ∧ (true = true ∧ (true = true ∧ (true = true ∧ (true = true ∧ (true = true ∧ (true = true ∧ (true = true ∧ (true = true ∧ (true = true ∧ (true = true ∧ (true = true ∧ (True ∧ (((True) ∧ (True) ∧ True) ∧ halterlaw27_TraceOnce.l0_Q a0 r .ret ⟨[.any, .any, .v (.one (.sc (.bool false))), .any, .any, .any, .any, .any, .any, .any, .any, .any, .any, .any, .any, .any, .any, .any, .any, .any, .any, .any, .any, .any, .any, .any, .any, .any, .any, .any, .any, .any, .any, .any, .any, .any, .any, .any, .any, .any, .any, .any, .any, .any, .any, .any, .any, .any, .any, .any, .any, .any, .any, .any, .any, .any, .any, .any, .any, .any, .any, .any, .any, .any, .any, .any, .any, .any, .any, .any, .any, .any, .any, .any, .any, .any, .any, .any, .any, .any, .any, .any, .any, .any, .any, .any, .any, .any, .any, .any, .any, .any, .any, .any, .any, .any, .any, .any, .any, .any, .any, .any, .any, .any, .any, .any, .any, .any, .any, .any, .any, .any, .any, .any, .any, .any, .any, .any, .any, .any, .any, .any, .any, .any, .any, .any, .any, .any, .any, .any, .any, .any, .any, .any, .any, .any, .any, .any, .any, .any, .any, .any, .any, .any, .any, .any, .any, .any, .any, .any, .any, .any, .any, .any, .any, .any, .any, .any, .any, .any, .any, .any, .any, .any, .any, .any, .any, .any, .any, .any, .any, .any, .any, .any, .any, .any, .any], [.ex false [.c (.sc (.int .i64 t290.2.1)), .c (.sc (.bool t290.2.2.1)), .c (.sc (.int .u32 t290.2.2.2.1)), .c (.sc (.int .i64 t290.2.2.2.2.1)), .c (.sc (.int .i64 t290.2.2.2.2.2.1)), .c (.sc (.bool t290.2.2.2.2.2.2))] 26], 0⟩)))))))))))))))))))))))))))))))))))) ∧ ((decide (x103 < (60 : Int))) = false → (((True) ∧ (True) ∧ True) ∧ halterlaw27_TraceOnce.l0_Q a0 r (.exit 0) ⟨[.any, .any, .any, .any, .any, .any, .any, .any, .any, .any, .any, .any, .any, .any, .any, .any, .any, .any, .any, .any, .any, .any, .any, .any, .any, .any, .any, .any, .any, .any, .any, .any, .any, .any, .any, .any, .any, .any, .any, .any, .any, .any, .any, .any, .any, .any, .any, .any, .any, .any, .any, .any, .any, .any, .any, .any, .any, .any, .any, .any, .any, .any, .any, .any, .any, .any, .any, .any, .any, .any, .any, .any, .any, .any, .any, .any, .any, .any, .any, .any, .any, .any, .any, .any, .any, .any, .any, .any, .any, .any, .any, .any, .any, .any, .any, .any, .any, .any, .any, .any, .any, .any, .any, .any, .any, .any, .any, .any, .any, .any, .any, .any, .any, .any, .any, .any, .any, .any, .any, .any, .any, .any, .any, .any, .any, .any, .any, .any, .any, .any, .any, .any, .any, .any, .any, .any, .any, .any, .any, .any, .any, .any, .any, .any, .any, .any, .any, .any, .any, .any, .any, .any, .any, .any, .any, .any, .any, .any, .any, .any, .any, .any, .any, .any, .any, .any, .any, .any, .any, .any, .any, .any, .any, .any, .any, .any, .any], [.ex false [.c (.sc (.int .i64 x94)), .c (.sc (.bool x95)), .c (.sc (.int .u32 x96)), .c (.sc (.int .i64 x97)), .c (.sc (.int .i64 x98)), .c (.sc (.bool x99))] 26], 0⟩)))))) ∧ ((decide (x103 < (((List.length a0) : Nat) : Int))) = false → ((decide (x103 < (((List.length a0) : Nat) : Int))) = false ∧ ((decide (x103 < (((List.length a0) : Nat) : Int))) = false ∧ (false = false ∧ (((True) ∧ (True) ∧ True) ∧ halterlaw27_TraceOnce.l0_Q a0 r (.exit 0) ⟨[.any, .any, .any, .any, .any, .any, .any, .any, .any, .any, .any, .any, .any, .any, .any, .any, .any, .any, .any, .any, .any, .any, .any, .any, .any, .any, .any, .any, .any, .any, .any, .any, .any, .any, .any, .any, .any, .any, .any, .any, .any, .any, .any, .any, .any, .any, .any, .any, .any, .any, .any, .any, .any, .any, .any, .any, .any, .any, .any, .any, .any, .any, .any, .any, .any, .any, .any, .any, .any, .any, .any, .any, .any, .any, .any, .any, .any, .any, .any, .any, .any, .any, .any, .any, .any, .any, .any, .any, .any, .any, .any, .any, .any, .any, .any, .any, .any, .any, .any, .any, .any, .any, .any, .any, .any, .any, .any, .any, .any, .any, .any, .any, .any, .any, .any, .any, .any, .any, .any, .any, .any, .any, .any, .any, .any, .any, .any, .any, .any, .any, .any, .any, .any, .any, .any, .any, .any, .any, .any, .any, .any, .any, .any, .any, .any, .any, .any, .any, .any, .any, .any, .any, .any, .any, .any, .any, .any, .any, .any, .any, .any, .any, .any, .any, .any, .any, .any, .any, .any, .any, .any, .any, .any, .any, .any, .any, .any], [.ex false [.c (.sc (.int .i64 x94)), .c (.sc (.bool x95)), .c (.sc (.int .u32 x96)), .c (.sc (.int .i64 x97)), .c (.sc (.int .i64 x98)), .c (.sc (.bool x99))] 26], 0⟩))))))) (by kernel_rfl) ?_)
    refine ⟨trivial, ?_⟩
    refine ⟨trivial, ?_⟩
    refine ⟨fun b208 => ?_, fun b208 => ?_⟩
    · rw [if_pos (of_decide_eq_true b208)] at h
      refine ⟨b208, ?_⟩
      refine ⟨trivial, ?_⟩
      refine ⟨b208, ?_⟩
      refine ⟨fun b209 => ?_, fun b209 => ?_⟩
      · rw [if_pos (of_decide_eq_true b209)] at h
        obtain ⟨g298, h⟩ := of_guard h
        refine ⟨g298, ?_⟩
        refine ⟨trivial, ?_⟩
        refine ⟨trivial, ?_⟩
        refine ⟨(by decide), ?_⟩
        refine ⟨trivial, ?_⟩
        refine ⟨trivial, ?_⟩
        obtain ⟨g297, h⟩ := of_guard h
        refine ⟨g297, ?_⟩
        refine ⟨trivial, ?_⟩
        refine ⟨trivial, ?_⟩
        refine ⟨(by decide), ?_⟩
        refine ⟨trivial, ?_⟩
        refine ⟨trivial, ?_⟩
        obtain ⟨t210, ht210, h⟩ := of_bind h
        refine ⟨t210, ⟨halterref26_Of.fun_ ht210, trivial⟩, ?_⟩
        obtain ⟨g296, h⟩ := of_guard h
        refine ⟨g296, ?_⟩
        refine ⟨trivial, ?_⟩
        refine ⟨trivial, ?_⟩
        refine ⟨(by decide), ?_⟩
        refine ⟨trivial, ?_⟩
        refine ⟨trivial, ?_⟩
        refine ⟨fun b211 => ?_, fun b211 => ?_⟩
        · rw [if_pos (beq_t b211)] at h
          obtain ⟨g212, h⟩ := of_guard h
          obtain ⟨t213, ht213, h⟩ := of_bind h
          refine ⟨t213, ?_⟩
          refine ⟨trivial, g212, trivial, trivial, (by decide), trivial, trivial, ⟨trace_Attach.fun_ ht213, trivial⟩, trivial, ?_⟩
          refine ⟨trivial, ?_⟩
          refine ⟨trivial, ?_⟩
          refine ⟨fun b214 => ?_, fun b214 => ?_⟩
          · rw [if_pos (bb_f (not_t b214))] at h
            refine ⟨trivial, ?_⟩
            obtain rfl := Option.some.inj h
            exact ⟨⟨trivial, trivial, trivial⟩, rfl, rfl⟩
          · rw [if_neg (not_not_intro (bb_t (not_f b214)))] at h
            refine ⟨trivial, ?_⟩
            refine ⟨fun b215 => ?_, fun b215 => ?_⟩
            · rw [if_pos (none_t b215)] at h
              refine ⟨trivial, ?_⟩
              refine ⟨trivial, ?_⟩
              refine ⟨trivial, ?_⟩
              obtain ⟨t216, ht216, h⟩ := of_bind h
              refine ⟨t216, ⟨trace_Check.fun_ ht216, trivial⟩, ?_⟩
              refine ⟨trivial, ?_⟩
              refine ⟨fun b217 => ?_, fun b217 => ?_⟩
              · rw [if_neg (not_not_intro (none_t (not_f b217)))] at h
                refine ⟨b217, ?_⟩
                refine ⟨trivial, ?_⟩
                refine ⟨b217, ?_⟩
                refine ⟨b217, ?_⟩
                refine ⟨trivial, ?_⟩
                refine ⟨b217, ?_⟩
                refine ⟨fun b218 => ?_, fun b218 => ?_⟩
                · rw [if_neg (not_not_intro (bb_t (not_f b218)))] at h
                  refine ⟨b218, ?_⟩
                  refine ⟨trivial, ?_⟩
                  refine ⟨b218, ?_⟩
                  refine ⟨trivial, ?_⟩
                  refine ⟨b218, ?_⟩
                  refine ⟨b218, ?_⟩
                  refine ⟨trivial, ?_⟩
                  refine ⟨b218, ?_⟩
                  refine ⟨fun b219 => ?_, fun b219 => ?_⟩
                  · rw [if_neg (not_not_intro (bb_t (not_f b219)))] at h
                    refine ⟨b219, ?_⟩
                    refine ⟨trivial, ?_⟩
                    refine ⟨b219, ?_⟩
                    refine ⟨trivial, ?_⟩
                    refine ⟨b219, ?_⟩
                    refine ⟨b219, ?_⟩
                    refine ⟨trivial, ?_⟩
                    refine ⟨b219, ?_⟩
                    refine ⟨fun b220 => ?_, fun b220 => ?_⟩
                    · rw [if_pos (bb_f (not_t b220))] at h
                      refine ⟨trivial, ?_⟩
                      obtain rfl := Option.some.inj h
                      exact ⟨⟨trivial, trivial, trivial⟩, rfl, rfl⟩
                    · rw [if_neg (not_not_intro (bb_t (not_f b220)))] at h
                      refine ⟨trivial, ?_⟩
                      refine ⟨trivial, ?_⟩
                      refine ⟨trivial, ?_⟩
                      exact ⟨⟨trivial, trivial, trivial⟩, ih t213.1 t213.2.1 t213.2.2.1 t213.2.2.2.1 t213.2.2.2.2.1 t213.2.2.2.2.2.1 true x101 x102 (IntKind.wrap .i64 (x103 + (1 : Int))) r h⟩
                  · rw [if_pos (bb_f (not_t b219))] at h
                    refine ⟨b219, ?_⟩
                    refine ⟨b219, ?_⟩
                    refine ⟨b219, ?_⟩
                    refine ⟨b219, ?_⟩
                    refine ⟨b219, ?_⟩
                    refine ⟨rfl, ?_⟩
                    refine ⟨trivial, ?_⟩
                    obtain rfl := Option.some.inj h
                    exact ⟨⟨trivial, trivial, trivial⟩, rfl, rfl⟩
                · rw [if_pos (bb_f (not_t b218))] at h
                  refine ⟨b218, ?_⟩
                  refine ⟨b218, ?_⟩
                  refine ⟨b218, ?_⟩
                  refine ⟨b218, ?_⟩
                  refine ⟨b218, ?_⟩
                  refine ⟨rfl, ?_⟩
                  refine ⟨rfl, ?_⟩
                  refine ⟨rfl, ?_⟩
                  refine ⟨rfl, ?_⟩
                  refine ⟨rfl, ?_⟩
                  refine ⟨rfl, ?_⟩
                  refine ⟨rfl, ?_⟩
                  refine ⟨trivial, ?_⟩
                  obtain rfl := Option.some.inj h
                  exact ⟨⟨trivial, trivial, trivial⟩, rfl, rfl⟩
              · rw [if_pos (none_f (not_t b217))] at h
                refine ⟨b217, ?_⟩
                refine ⟨b217, ?_⟩
                refine ⟨b217, ?_⟩
                refine ⟨b217, ?_⟩
                refine ⟨rfl, ?_⟩
                refine ⟨rfl, ?_⟩
                refine ⟨rfl, ?_⟩
                refine ⟨rfl, ?_⟩
                refine ⟨rfl, ?_⟩
                refine ⟨rfl, ?_⟩
                refine ⟨rfl, ?_⟩
                refine ⟨rfl, ?_⟩
                refine ⟨rfl, ?_⟩
                refine ⟨rfl, ?_⟩
                refine ⟨rfl, ?_⟩
                refine ⟨rfl, ?_⟩
                refine ⟨rfl, ?_⟩
                refine ⟨trivial, ?_⟩
                obtain rfl := Option.some.inj h
                exact ⟨⟨trivial, trivial, trivial⟩, rfl, rfl⟩
            · rw [if_neg (none_f b215)] at h
              refine ⟨trivial, ?_⟩
              obtain ⟨t221, ht221, h⟩ := of_bind h
              refine ⟨t221, ⟨trace_Check.fun_ ht221, trivial⟩, ?_⟩
              refine ⟨trivial, ?_⟩
              refine ⟨fun b222 => ?_, fun b222 => ?_⟩
              · rw [if_neg (not_not_intro (none_t (not_f b222)))] at h
                refine ⟨b222, ?_⟩
                refine ⟨trivial, ?_⟩
                refine ⟨b222, ?_⟩
                refine ⟨b222, ?_⟩
                refine ⟨trivial, ?_⟩
                refine ⟨b222, ?_⟩
                refine ⟨fun b223 => ?_, fun b223 => ?_⟩
                · rw [if_neg (not_not_intro (bb_t (not_f b223)))] at h
                  refine ⟨b223, ?_⟩
                  refine ⟨trivial, ?_⟩
                  refine ⟨b223, ?_⟩
                  refine ⟨trivial, ?_⟩
                  refine ⟨b223, ?_⟩
                  refine ⟨b223, ?_⟩
                  refine ⟨trivial, ?_⟩
                  refine ⟨b223, ?_⟩
                  refine ⟨fun b224 => ?_, fun b224 => ?_⟩
                  · rw [if_neg (not_not_intro (bb_t (not_f b224)))] at h
                    refine ⟨b224, ?_⟩
                    refine ⟨trivial, ?_⟩
                    refine ⟨b224, ?_⟩
                    refine ⟨trivial, ?_⟩
                    refine ⟨b224, ?_⟩
                    refine ⟨b224, ?_⟩
                    refine ⟨trivial, ?_⟩
                    refine ⟨b224, ?_⟩
                    refine ⟨fun b225 => ?_, fun b225 => ?_⟩
                    · rw [if_pos (bb_f (not_t b225))] at h
                      refine ⟨trivial, ?_⟩
                      obtain rfl := Option.some.inj h
                      exact ⟨⟨trivial, trivial, trivial⟩, rfl, rfl⟩
                    · rw [if_neg (not_not_intro (bb_t (not_f b225)))] at h
                      refine ⟨trivial, ?_⟩
                      refine ⟨trivial, ?_⟩
                      refine ⟨trivial, ?_⟩
                      exact ⟨⟨trivial, trivial, trivial⟩, ih x94 x95 x96 x97 x98 x99 true x101 x102 (IntKind.wrap .i64 (x103 + (1 : Int))) r h⟩
                  · rw [if_pos (bb_f (not_t b224))] at h
                    refine ⟨b224, ?_⟩
                    refine ⟨b224, ?_⟩
                    refine ⟨b224, ?_⟩
                    refine ⟨b224, ?_⟩
                    refine ⟨b224, ?_⟩
                    refine ⟨rfl, ?_⟩
                    refine ⟨trivial, ?_⟩
                    obtain rfl := Option.some.inj h
                    exact ⟨⟨trivial, trivial, trivial⟩, rfl, rfl⟩
                · rw [if_pos (bb_f (not_t b223))] at h
                  refine ⟨b223, ?_⟩
                  refine ⟨b223, ?_⟩
                  refine ⟨b223, ?_⟩
                  refine ⟨b223, ?_⟩
                  refine ⟨b223, ?_⟩
                  refine ⟨rfl, ?_⟩
                  refine ⟨rfl, ?_⟩
                  refine ⟨rfl, ?_⟩
                  refine ⟨rfl, ?_⟩
                  refine ⟨rfl, ?_⟩
                  refine ⟨rfl, ?_⟩
                  refine ⟨rfl, ?_⟩
                  refine ⟨trivial, ?_⟩
                  obtain rfl := Option.some.inj h
                  exact ⟨⟨trivial, trivial, trivial⟩, rfl, rfl⟩
              · rw [if_pos (none_f (not_t b222))] at h
                refine ⟨b222, ?_⟩
                refine ⟨b222, ?_⟩
                refine ⟨b222, ?_⟩
                refine ⟨b222, ?_⟩
                refine ⟨rfl, ?_⟩
                refine ⟨rfl, ?_⟩
                refine ⟨rfl, ?_⟩
                refine ⟨rfl, ?_⟩
                refine ⟨rfl, ?_⟩
                refine ⟨rfl, ?_⟩
                refine ⟨rfl, ?_⟩
                refine ⟨rfl, ?_⟩
                refine ⟨rfl, ?_⟩
                refine ⟨rfl, ?_⟩
                refine ⟨rfl, ?_⟩
                refine ⟨rfl, ?_⟩
                refine ⟨rfl, ?_⟩
                refine ⟨trivial, ?_⟩
                obtain rfl := Option.some.inj h
                exact ⟨⟨trivial, trivial, trivial⟩, rfl, rfl⟩
        · rw [if_neg (beq_f b211)] at h
          refine ⟨trivial, ?_⟩
          refine ⟨fun b226 => ?_, fun b226 => ?_⟩
          · rw [if_pos (beq_t b226)] at h
            refine ⟨trivial, ?_⟩
            obtain ⟨t227, ht227, h⟩ := of_bind h
            refine ⟨t227, ⟨trace_Stop.fun_ ht227, trivial⟩, ?_⟩
            refine ⟨trivial, ?_⟩
            refine ⟨trivial, ?_⟩
            refine ⟨fun b228 => ?_, fun b228 => ?_⟩
            · rw [if_pos b228] at h
              refine ⟨b228, ?_⟩
              refine ⟨b228, ?_⟩
              refine ⟨trivial, ?_⟩
              refine ⟨fun b229 => ?_, fun b229 => ?_⟩
              · rw [if_pos (bb_f (not_t b229))] at h
                refine ⟨trivial, ?_⟩
                obtain rfl := Option.some.inj h
                exact ⟨⟨trivial, trivial, trivial⟩, rfl, rfl⟩
              · rw [if_neg (not_not_intro (bb_t (not_f b229)))] at h
                refine ⟨trivial, ?_⟩
                refine ⟨fun b230 => ?_, fun b230 => ?_⟩
                · rw [if_pos (none_t b230)] at h
                  refine ⟨trivial, ?_⟩
                  refine ⟨b230, ?_⟩
                  refine ⟨trivial, ?_⟩
                  refine ⟨trivial, ?_⟩
                  refine ⟨trivial, ?_⟩
                  obtain ⟨t231, ht231, h⟩ := of_bind h
                  refine ⟨t231, ⟨trace_Check.fun_ ht231, trivial⟩, ?_⟩
                  refine ⟨trivial, ?_⟩
                  refine ⟨fun b232 => ?_, fun b232 => ?_⟩
                  · rw [if_neg (not_not_intro (none_t (not_f b232)))] at h
                    refine ⟨b232, ?_⟩
                    refine ⟨trivial, ?_⟩
                    refine ⟨b232, ?_⟩
                    refine ⟨b232, ?_⟩
                    refine ⟨trivial, ?_⟩
                    refine ⟨b232, ?_⟩
                    refine ⟨fun b233 => ?_, fun b233 => ?_⟩
                    · rw [if_neg (not_not_intro (bb_t (not_f b233)))] at h
                      refine ⟨b233, ?_⟩
                      refine ⟨trivial, ?_⟩
                      refine ⟨b233, ?_⟩
                      refine ⟨trivial, ?_⟩
                      refine ⟨b233, ?_⟩
                      refine ⟨b233, ?_⟩
                      refine ⟨trivial, ?_⟩
                      refine ⟨b233, ?_⟩
                      refine ⟨fun b234 => ?_, fun b234 => ?_⟩
                      · rw [if_neg (not_not_intro (bb_t (not_f b234)))] at h
                        refine ⟨b234, ?_⟩
                        refine ⟨trivial, ?_⟩
                        refine ⟨b234, ?_⟩
                        refine ⟨trivial, ?_⟩
                        refine ⟨b234, ?_⟩
                        refine ⟨b234, ?_⟩
                        refine ⟨trivial, ?_⟩
                        refine ⟨b234, ?_⟩
                        refine ⟨fun b235 => ?_, fun b235 => ?_⟩
                        · rw [if_pos (bb_f (not_t b235))] at h
                          refine ⟨trivial, ?_⟩
                          obtain rfl := Option.some.inj h
                          exact ⟨⟨trivial, trivial, trivial⟩, rfl, rfl⟩
                        · rw [if_neg (not_not_intro (bb_t (not_f b235)))] at h
                          refine ⟨trivial, ?_⟩
                          refine ⟨trivial, ?_⟩
                          refine ⟨trivial, ?_⟩
                          exact ⟨⟨trivial, trivial, trivial⟩, ih t227.1 t227.2.1 t227.2.2.1 t227.2.2.2.1 t227.2.2.2.2.1 t227.2.2.2.2.2.1 x100 true true (IntKind.wrap .i64 (x103 + (1 : Int))) r h⟩
                      · rw [if_pos (bb_f (not_t b234))] at h
                        refine ⟨b234, ?_⟩
                        refine ⟨b234, ?_⟩
                        refine ⟨b234, ?_⟩
                        refine ⟨b234, ?_⟩
                        refine ⟨b234, ?_⟩
                        refine ⟨rfl, ?_⟩
                        refine ⟨trivial, ?_⟩
                        obtain rfl := Option.some.inj h
                        exact ⟨⟨trivial, trivial, trivial⟩, rfl, rfl⟩
                    · rw [if_pos (bb_f (not_t b233))] at h
                      refine ⟨b233, ?_⟩
                      refine ⟨b233, ?_⟩
                      refine ⟨b233, ?_⟩
                      refine ⟨b233, ?_⟩
                      refine ⟨b233, ?_⟩
                      refine ⟨rfl, ?_⟩
                      refine ⟨rfl, ?_⟩
                      refine ⟨rfl, ?_⟩
                      refine ⟨rfl, ?_⟩
                      refine ⟨rfl, ?_⟩
                      refine ⟨rfl, ?_⟩
                      refine ⟨rfl, ?_⟩
                      refine ⟨trivial, ?_⟩
                      obtain rfl := Option.some.inj h
                      exact ⟨⟨trivial, trivial, trivial⟩, rfl, rfl⟩
                  · rw [if_pos (none_f (not_t b232))] at h
                    refine ⟨b232, ?_⟩
                    refine ⟨b232, ?_⟩
                    refine ⟨b232, ?_⟩
                    refine ⟨b232, ?_⟩
                    refine ⟨rfl, ?_⟩
                    refine ⟨rfl, ?_⟩
                    refine ⟨rfl, ?_⟩
                    refine ⟨rfl, ?_⟩
                    refine ⟨rfl, ?_⟩
                    refine ⟨rfl, ?_⟩
                    refine ⟨rfl, ?_⟩
                    refine ⟨rfl, ?_⟩
                    refine ⟨rfl, ?_⟩
                    refine ⟨rfl, ?_⟩
                    refine ⟨rfl, ?_⟩
                    refine ⟨rfl, ?_⟩
                    refine ⟨rfl, ?_⟩
                    refine ⟨trivial, ?_⟩
                    obtain rfl := Option.some.inj h
                    exact ⟨⟨trivial, trivial, trivial⟩, rfl, rfl⟩
                · rw [if_neg (none_f b230)] at h
                  refine ⟨trivial, ?_⟩
                  refine ⟨b230, ?_⟩
                  refine ⟨trivial, ?_⟩
                  obtain ⟨t236, ht236, h⟩ := of_bind h
                  refine ⟨t236, ⟨trace_Check.fun_ ht236, trivial⟩, ?_⟩
                  refine ⟨trivial, ?_⟩
                  refine ⟨fun b237 => ?_, fun b237 => ?_⟩
                  · rw [if_neg (not_not_intro (none_t (not_f b237)))] at h
                    refine ⟨b237, ?_⟩
                    refine ⟨trivial, ?_⟩
                    refine ⟨b237, ?_⟩
                    refine ⟨b237, ?_⟩
                    refine ⟨trivial, ?_⟩
                    refine ⟨b237, ?_⟩
                    refine ⟨fun b238 => ?_, fun b238 => ?_⟩
                    · rw [if_neg (not_not_intro (bb_t (not_f b238)))] at h
                      refine ⟨b238, ?_⟩
                      refine ⟨trivial, ?_⟩
                      refine ⟨b238, ?_⟩
                      refine ⟨trivial, ?_⟩
                      refine ⟨b238, ?_⟩
                      refine ⟨b238, ?_⟩
                      refine ⟨trivial, ?_⟩
                      refine ⟨b238, ?_⟩
                      refine ⟨fun b239 => ?_, fun b239 => ?_⟩
                      · rw [if_neg (not_not_intro (bb_t (not_f b239)))] at h
                        refine ⟨b239, ?_⟩
                        refine ⟨trivial, ?_⟩
                        refine ⟨b239, ?_⟩
                        refine ⟨trivial, ?_⟩
                        refine ⟨b239, ?_⟩
                        refine ⟨b239, ?_⟩
                        refine ⟨trivial, ?_⟩
                        refine ⟨b239, ?_⟩
                        refine ⟨fun b240 => ?_, fun b240 => ?_⟩
                        · rw [if_pos (bb_f (not_t b240))] at h
                          refine ⟨trivial, ?_⟩
                          obtain rfl := Option.some.inj h
                          exact ⟨⟨trivial, trivial, trivial⟩, rfl, rfl⟩
                        · rw [if_neg (not_not_intro (bb_t (not_f b240)))] at h
                          refine ⟨trivial, ?_⟩
                          refine ⟨trivial, ?_⟩
                          refine ⟨trivial, ?_⟩
                          exact ⟨⟨trivial, trivial, trivial⟩, ih x94 x95 x96 x97 x98 x99 x100 x101 x102 (IntKind.wrap .i64 (x103 + (1 : Int))) r h⟩
                      · rw [if_pos (bb_f (not_t b239))] at h
                        refine ⟨b239, ?_⟩
                        refine ⟨b239, ?_⟩
                        refine ⟨b239, ?_⟩
                        refine ⟨b239, ?_⟩
                        refine ⟨b239, ?_⟩
                        refine ⟨rfl, ?_⟩
                        refine ⟨trivial, ?_⟩
                        obtain rfl := Option.some.inj h
                        exact ⟨⟨trivial, trivial, trivial⟩, rfl, rfl⟩
                    · rw [if_pos (bb_f (not_t b238))] at h
                      refine ⟨b238, ?_⟩
                      refine ⟨b238, ?_⟩
                      refine ⟨b238, ?_⟩
                      refine ⟨b238, ?_⟩
                      refine ⟨b238, ?_⟩
                      refine ⟨rfl, ?_⟩
                      refine ⟨rfl, ?_⟩
                      refine ⟨rfl, ?_⟩
                      refine ⟨rfl, ?_⟩
                      refine ⟨rfl, ?_⟩
                      refine ⟨rfl, ?_⟩
                      refine ⟨rfl, ?_⟩
                      refine ⟨trivial, ?_⟩
                      obtain rfl := Option.some.inj h
                      exact ⟨⟨trivial, trivial, trivial⟩, rfl, rfl⟩
                  · rw [if_pos (none_f (not_t b237))] at h
                    refine ⟨b237, ?_⟩
                    refine ⟨b237, ?_⟩
                    refine ⟨b237, ?_⟩
                    refine ⟨b237, ?_⟩
                    refine ⟨rfl, ?_⟩
                    refine ⟨rfl, ?_⟩
                    refine ⟨rfl, ?_⟩
                    refine ⟨rfl, ?_⟩
                    refine ⟨rfl, ?_⟩
                    refine ⟨rfl, ?_⟩
                    refine ⟨rfl, ?_⟩
                    refine ⟨rfl, ?_⟩
                    refine ⟨rfl, ?_⟩
                    refine ⟨rfl, ?_⟩
                    refine ⟨rfl, ?_⟩
                    refine ⟨rfl, ?_⟩
                    refine ⟨rfl, ?_⟩
                    refine ⟨trivial, ?_⟩
                    obtain rfl := Option.some.inj h
                    exact ⟨⟨trivial, trivial, trivial⟩, rfl, rfl⟩
            · rw [if_neg (ff b228)] at h
              refine ⟨b228, ?_⟩
              refine ⟨b228, ?_⟩
              refine ⟨trivial, ?_⟩
              refine ⟨fun b241 => ?_, fun b241 => ?_⟩
              · rw [if_pos (bb_f (not_t b241))] at h
                refine ⟨trivial, ?_⟩
                obtain rfl := Option.some.inj h
                exact ⟨⟨trivial, trivial, trivial⟩, rfl, rfl⟩
              · rw [if_neg (not_not_intro (bb_t (not_f b241)))] at h
                refine ⟨trivial, ?_⟩
                refine ⟨fun b242 => ?_, fun b242 => ?_⟩
                · rw [if_pos (none_t b242)] at h
                  refine ⟨trivial, ?_⟩
                  refine ⟨b242, ?_⟩
                  refine ⟨trivial, ?_⟩
                  refine ⟨trivial, ?_⟩
                  refine ⟨trivial, ?_⟩
                  obtain ⟨t243, ht243, h⟩ := of_bind h
                  refine ⟨t243, ⟨trace_Check.fun_ ht243, trivial⟩, ?_⟩
                  refine ⟨trivial, ?_⟩
                  refine ⟨fun b244 => ?_, fun b244 => ?_⟩
                  · rw [if_neg (not_not_intro (none_t (not_f b244)))] at h
                    refine ⟨b244, ?_⟩
                    refine ⟨trivial, ?_⟩
                    refine ⟨b244, ?_⟩
                    refine ⟨b244, ?_⟩
                    refine ⟨trivial, ?_⟩
                    refine ⟨b244, ?_⟩
                    refine ⟨fun b245 => ?_, fun b245 => ?_⟩
                    · rw [if_neg (not_not_intro (bb_t (not_f b245)))] at h
                      refine ⟨b245, ?_⟩
                      refine ⟨trivial, ?_⟩
                      refine ⟨b245, ?_⟩
                      refine ⟨trivial, ?_⟩
                      refine ⟨b245, ?_⟩
                      refine ⟨b245, ?_⟩
                      refine ⟨trivial, ?_⟩
                      refine ⟨b245, ?_⟩
                      refine ⟨fun b246 => ?_, fun b246 => ?_⟩
                      · rw [if_neg (not_not_intro (bb_t (not_f b246)))] at h
                        refine ⟨b246, ?_⟩
                        refine ⟨trivial, ?_⟩
                        refine ⟨b246, ?_⟩
                        refine ⟨trivial, ?_⟩
                        refine ⟨b246, ?_⟩
                        refine ⟨b246, ?_⟩
                        refine ⟨trivial, ?_⟩
                        refine ⟨b246, ?_⟩
                        refine ⟨fun b247 => ?_, fun b247 => ?_⟩
                        · rw [if_pos (bb_f (not_t b247))] at h
                          refine ⟨trivial, ?_⟩
                          obtain rfl := Option.some.inj h
                          exact ⟨⟨trivial, trivial, trivial⟩, rfl, rfl⟩
                        · rw [if_neg (not_not_intro (bb_t (not_f b247)))] at h
                          refine ⟨trivial, ?_⟩
                          refine ⟨trivial, ?_⟩
                          refine ⟨trivial, ?_⟩
                          exact ⟨⟨trivial, trivial, trivial⟩, ih t227.1 t227.2.1 t227.2.2.1 t227.2.2.2.1 t227.2.2.2.2.1 t227.2.2.2.2.2.1 x100 true true (IntKind.wrap .i64 (x103 + (1 : Int))) r h⟩
                      · rw [if_pos (bb_f (not_t b246))] at h
                        refine ⟨b246, ?_⟩
                        refine ⟨b246, ?_⟩
                        refine ⟨b246, ?_⟩
                        refine ⟨b246, ?_⟩
                        refine ⟨b246, ?_⟩
                        refine ⟨rfl, ?_⟩
                        refine ⟨trivial, ?_⟩
                        obtain rfl := Option.some.inj h
                        exact ⟨⟨trivial, trivial, trivial⟩, rfl, rfl⟩
                    · rw [if_pos (bb_f (not_t b245))] at h
                      refine ⟨b245, ?_⟩
                      refine ⟨b245, ?_⟩
                      refine ⟨b245, ?_⟩
                      refine ⟨b245, ?_⟩
                      refine ⟨b245, ?_⟩
                      refine ⟨rfl, ?_⟩
                      refine ⟨rfl, ?_⟩
                      refine ⟨rfl, ?_⟩
                      refine ⟨rfl, ?_⟩
                      refine ⟨rfl, ?_⟩
                      refine ⟨rfl, ?_⟩
                      refine ⟨rfl, ?_⟩
                      refine ⟨trivial, ?_⟩
                      obtain rfl := Option.some.inj h
                      exact ⟨⟨trivial, trivial, trivial⟩, rfl, rfl⟩
                  · rw [if_pos (none_f (not_t b244))] at h
                    refine ⟨b244, ?_⟩
                    refine ⟨b244, ?_⟩
                    refine ⟨b244, ?_⟩
                    refine ⟨b244, ?_⟩
                    refine ⟨rfl, ?_⟩
                    refine ⟨rfl, ?_⟩
                    refine ⟨rfl, ?_⟩
                    refine ⟨rfl, ?_⟩
                    refine ⟨rfl, ?_⟩
                    refine ⟨rfl, ?_⟩
                    refine ⟨rfl, ?_⟩
                    refine ⟨rfl, ?_⟩
                    refine ⟨rfl, ?_⟩
                    refine ⟨rfl, ?_⟩
                    refine ⟨rfl, ?_⟩
                    refine ⟨rfl, ?_⟩
                    refine ⟨rfl, ?_⟩
                    refine ⟨trivial, ?_⟩
                    obtain rfl := Option.some.inj h
                    exact ⟨⟨trivial, trivial, trivial⟩, rfl, rfl⟩
                · rw [if_neg (none_f b242)] at h
                  refine ⟨trivial, ?_⟩
                  refine ⟨b242, ?_⟩
                  refine ⟨trivial, ?_⟩
                  obtain ⟨t248, ht248, h⟩ := of_bind h
                  refine ⟨t248, ⟨trace_Check.fun_ ht248, trivial⟩, ?_⟩
                  refine ⟨trivial, ?_⟩
                  refine ⟨fun b249 => ?_, fun b249 => ?_⟩
                  · rw [if_neg (not_not_intro (none_t (not_f b249)))] at h
                    refine ⟨b249, ?_⟩
                    refine ⟨trivial, ?_⟩
                    refine ⟨b249, ?_⟩
                    refine ⟨b249, ?_⟩
                    refine ⟨trivial, ?_⟩
                    refine ⟨b249, ?_⟩
                    refine ⟨fun b250 => ?_, fun b250 => ?_⟩
                    · rw [if_neg (not_not_intro (bb_t (not_f b250)))] at h
                      refine ⟨b250, ?_⟩
                      refine ⟨trivial, ?_⟩
                      refine ⟨b250, ?_⟩
                      refine ⟨trivial, ?_⟩
                      refine ⟨b250, ?_⟩
                      refine ⟨b250, ?_⟩
                      refine ⟨trivial, ?_⟩
                      refine ⟨b250, ?_⟩
                      refine ⟨fun b251 => ?_, fun b251 => ?_⟩
                      · rw [if_neg (not_not_intro (bb_t (not_f b251)))] at h
                        refine ⟨b251, ?_⟩
                        refine ⟨trivial, ?_⟩
                        refine ⟨b251, ?_⟩
                        refine ⟨trivial, ?_⟩
                        refine ⟨b251, ?_⟩
                        refine ⟨b251, ?_⟩
                        refine ⟨trivial, ?_⟩
                        refine ⟨b251, ?_⟩
                        refine ⟨fun b252 => ?_, fun b252 => ?_⟩
                        · rw [if_pos (bb_f (not_t b252))] at h
                          refine ⟨trivial, ?_⟩
                          obtain rfl := Option.some.inj h
                          exact ⟨⟨trivial, trivial, trivial⟩, rfl, rfl⟩
                        · rw [if_neg (not_not_intro (bb_t (not_f b252)))] at h
                          refine ⟨trivial, ?_⟩
                          refine ⟨trivial, ?_⟩
                          refine ⟨trivial, ?_⟩
                          exact ⟨⟨trivial, trivial, trivial⟩, ih x94 x95 x96 x97 x98 x99 x100 x101 x102 (IntKind.wrap .i64 (x103 + (1 : Int))) r h⟩
                      · rw [if_pos (bb_f (not_t b251))] at h
                        refine ⟨b251, ?_⟩
                        refine ⟨b251, ?_⟩
                        refine ⟨b251, ?_⟩
                        refine ⟨b251, ?_⟩
                        refine ⟨b251, ?_⟩
                        refine ⟨rfl, ?_⟩
                        refine ⟨trivial, ?_⟩
                        obtain rfl := Option.some.inj h
                        exact ⟨⟨trivial, trivial, trivial⟩, rfl, rfl⟩
                    · rw [if_pos (bb_f (not_t b250))] at h
                      refine ⟨b250, ?_⟩
                      refine ⟨b250, ?_⟩
                      refine ⟨b250, ?_⟩
                      refine ⟨b250, ?_⟩
                      refine ⟨b250, ?_⟩
                      refine ⟨rfl, ?_⟩
                      refine ⟨rfl, ?_⟩
                      refine ⟨rfl, ?_⟩
                      refine ⟨rfl, ?_⟩
                      refine ⟨rfl, ?_⟩
                      refine ⟨rfl, ?_⟩
                      refine ⟨rfl, ?_⟩
                      refine ⟨trivial, ?_⟩
                      obtain rfl := Option.some.inj h
                      exact ⟨⟨trivial, trivial, trivial⟩, rfl, rfl⟩
                  · rw [if_pos (none_f (not_t b249))] at h
                    refine ⟨b249, ?_⟩
                    refine ⟨b249, ?_⟩
                    refine ⟨b249, ?_⟩
                    refine ⟨b249, ?_⟩
                    refine ⟨rfl, ?_⟩
                    refine ⟨rfl, ?_⟩
                    refine ⟨rfl, ?_⟩
                    refine ⟨rfl, ?_⟩
                    refine ⟨rfl, ?_⟩
                    refine ⟨rfl, ?_⟩
                    refine ⟨rfl, ?_⟩
                    refine ⟨rfl, ?_⟩
                    refine ⟨rfl, ?_⟩
                    refine ⟨rfl, ?_⟩
                    refine ⟨rfl, ?_⟩
                    refine ⟨rfl, ?_⟩
                    refine ⟨rfl, ?_⟩
                    refine ⟨trivial, ?_⟩
                    obtain rfl := Option.some.inj h
                    exact ⟨⟨trivial, trivial, trivial⟩, rfl, rfl⟩
          · rw [if_neg (beq_f b226)] at h
            refine ⟨trivial, ?_⟩
            refine ⟨fun b253 => ?_, fun b253 => ?_⟩
            · rw [if_pos (beq_t b253)] at h
              refine ⟨trivial, ?_⟩
              obtain ⟨t254, ht254, h⟩ := of_bind h
              refine ⟨t254, ⟨trace_Collect.fun_ ht254, trivial⟩, ?_⟩
              refine ⟨trivial, ?_⟩
              refine ⟨trivial, ?_⟩
              refine ⟨trivial, ?_⟩
              refine ⟨trivial, ?_⟩
              refine ⟨trivial, ?_⟩
              refine ⟨fun b255 => ?_, fun b255 => ?_⟩
              · rw [if_neg (not_not_intro (bb_t (not_f b255)))] at h
                refine ⟨b255, ?_⟩
                refine ⟨trivial, ?_⟩
                refine ⟨b255, ?_⟩
                refine ⟨fun b256 => ?_, fun b256 => ?_⟩
                · rw [if_pos (none_t b256)] at h
                  refine ⟨b256, ?_⟩
                  refine ⟨trivial, ?_⟩
                  refine ⟨b255, ?_⟩
                  refine ⟨b256, ?_⟩
                  refine ⟨b255, ?_⟩
                  refine ⟨fun b257 => ?_, fun b257 => ?_⟩
                  · rw [if_pos (beq_t b257)] at h
                    refine ⟨trivial, ?_⟩
                    obtain rfl := Option.some.inj h
                    exact ⟨⟨trivial, trivial, trivial⟩, rfl, rfl⟩
                  · rw [if_neg (beq_f b257)] at h
                    refine ⟨trivial, ?_⟩
                    refine ⟨b256, ?_⟩
                    refine ⟨trivial, ?_⟩
                    refine ⟨trivial, ?_⟩
                    refine ⟨trivial, ?_⟩
                    obtain ⟨t258, ht258, h⟩ := of_bind h
                    refine ⟨t258, ⟨trace_Check.fun_ ht258, trivial⟩, ?_⟩
                    refine ⟨trivial, ?_⟩
                    refine ⟨fun b259 => ?_, fun b259 => ?_⟩
                    · rw [if_neg (not_not_intro (none_t (not_f b259)))] at h
                      refine ⟨b259, ?_⟩
                      refine ⟨trivial, ?_⟩
                      refine ⟨b259, ?_⟩
                      refine ⟨b259, ?_⟩
                      refine ⟨trivial, ?_⟩
                      refine ⟨b259, ?_⟩
                      refine ⟨fun b260 => ?_, fun b260 => ?_⟩
                      · rw [if_neg (not_not_intro (bb_t (not_f b260)))] at h
                        refine ⟨b260, ?_⟩
                        refine ⟨trivial, ?_⟩
                        refine ⟨b260, ?_⟩
                        refine ⟨trivial, ?_⟩
                        refine ⟨b260, ?_⟩
                        refine ⟨b260, ?_⟩
                        refine ⟨trivial, ?_⟩
                        refine ⟨b260, ?_⟩
                        refine ⟨fun b261 => ?_, fun b261 => ?_⟩
                        · rw [if_neg (not_not_intro (bb_t (not_f b261)))] at h
                          refine ⟨b261, ?_⟩
                          refine ⟨trivial, ?_⟩
                          refine ⟨b261, ?_⟩
                          refine ⟨trivial, ?_⟩
                          refine ⟨b261, ?_⟩
                          refine ⟨b261, ?_⟩
                          refine ⟨trivial, ?_⟩
                          refine ⟨b261, ?_⟩
                          refine ⟨fun b262 => ?_, fun b262 => ?_⟩
                          · rw [if_pos (bb_f (not_t b262))] at h
                            refine ⟨trivial, ?_⟩
                            obtain rfl := Option.some.inj h
                            exact ⟨⟨trivial, trivial, trivial⟩, rfl, rfl⟩
                          · rw [if_neg (not_not_intro (bb_t (not_f b262)))] at h
                            refine ⟨trivial, ?_⟩
                            refine ⟨trivial, ?_⟩
                            refine ⟨trivial, ?_⟩
                            exact ⟨⟨trivial, trivial, trivial⟩, ih t254.2.1 t254.2.2.1 t254.2.2.2.1 t254.2.2.2.2.1 t254.2.2.2.2.2.1 t254.2.2.2.2.2.2.1 x100 x101 false (IntKind.wrap .i64 (x103 + (1 : Int))) r h⟩
                        · rw [if_pos (bb_f (not_t b261))] at h
                          refine ⟨b261, ?_⟩
                          refine ⟨b261, ?_⟩
                          refine ⟨b261, ?_⟩
                          refine ⟨b261, ?_⟩
                          refine ⟨b261, ?_⟩
                          refine ⟨rfl, ?_⟩
                          refine ⟨trivial, ?_⟩
                          obtain rfl := Option.some.inj h
                          exact ⟨⟨trivial, trivial, trivial⟩, rfl, rfl⟩
                      · rw [if_pos (bb_f (not_t b260))] at h
                        refine ⟨b260, ?_⟩
                        refine ⟨b260, ?_⟩
                        refine ⟨b260, ?_⟩
                        refine ⟨b260, ?_⟩
                        refine ⟨b260, ?_⟩
                        refine ⟨rfl, ?_⟩
                        refine ⟨rfl, ?_⟩
                        refine ⟨rfl, ?_⟩
                        refine ⟨rfl, ?_⟩
                        refine ⟨rfl, ?_⟩
                        refine ⟨rfl, ?_⟩
                        refine ⟨rfl, ?_⟩
                        refine ⟨trivial, ?_⟩
                        obtain rfl := Option.some.inj h
                        exact ⟨⟨trivial, trivial, trivial⟩, rfl, rfl⟩
                    · rw [if_pos (none_f (not_t b259))] at h
                      refine ⟨b259, ?_⟩
                      refine ⟨b259, ?_⟩
                      refine ⟨b259, ?_⟩
                      refine ⟨b259, ?_⟩
                      refine ⟨rfl, ?_⟩
                      refine ⟨rfl, ?_⟩
                      refine ⟨rfl, ?_⟩
                      refine ⟨rfl, ?_⟩
                      refine ⟨rfl, ?_⟩
                      refine ⟨rfl, ?_⟩
                      refine ⟨rfl, ?_⟩
                      refine ⟨rfl, ?_⟩
                      refine ⟨rfl, ?_⟩
                      refine ⟨rfl, ?_⟩
                      refine ⟨rfl, ?_⟩
                      refine ⟨rfl, ?_⟩
                      refine ⟨rfl, ?_⟩
                      refine ⟨trivial, ?_⟩
                      obtain rfl := Option.some.inj h
                      exact ⟨⟨trivial, trivial, trivial⟩, rfl, rfl⟩
                · rw [if_neg (none_f b256)] at h
                  refine ⟨b256, ?_⟩
                  refine ⟨b255, ?_⟩
                  refine ⟨b256, ?_⟩
                  refine ⟨b255, ?_⟩
                  refine ⟨rfl, ?_⟩
                  refine ⟨trivial, ?_⟩
                  refine ⟨b256, ?_⟩
                  refine ⟨trivial, ?_⟩
                  obtain ⟨t263, ht263, h⟩ := of_bind h
                  refine ⟨t263, ⟨trace_Check.fun_ ht263, trivial⟩, ?_⟩
                  refine ⟨trivial, ?_⟩
                  refine ⟨fun b264 => ?_, fun b264 => ?_⟩
                  · rw [if_neg (not_not_intro (none_t (not_f b264)))] at h
                    refine ⟨b264, ?_⟩
                    refine ⟨trivial, ?_⟩
                    refine ⟨b264, ?_⟩
                    refine ⟨b264, ?_⟩
                    refine ⟨trivial, ?_⟩
                    refine ⟨b264, ?_⟩
                    refine ⟨fun b265 => ?_, fun b265 => ?_⟩
                    · rw [if_neg (not_not_intro (bb_t (not_f b265)))] at h
                      refine ⟨b265, ?_⟩
                      refine ⟨trivial, ?_⟩
                      refine ⟨b265, ?_⟩
                      refine ⟨trivial, ?_⟩
                      refine ⟨b265, ?_⟩
                      refine ⟨b265, ?_⟩
                      refine ⟨trivial, ?_⟩
                      refine ⟨b265, ?_⟩
                      refine ⟨fun b266 => ?_, fun b266 => ?_⟩
                      · rw [if_neg (not_not_intro (bb_t (not_f b266)))] at h
                        refine ⟨b266, ?_⟩
                        refine ⟨trivial, ?_⟩
                        refine ⟨b266, ?_⟩
                        refine ⟨trivial, ?_⟩
                        refine ⟨b266, ?_⟩
                        refine ⟨b266, ?_⟩
                        refine ⟨trivial, ?_⟩
                        refine ⟨b266, ?_⟩
                        refine ⟨fun b267 => ?_, fun b267 => ?_⟩
                        · rw [if_pos (bb_f (not_t b267))] at h
                          refine ⟨trivial, ?_⟩
                          obtain rfl := Option.some.inj h
                          exact ⟨⟨trivial, trivial, trivial⟩, rfl, rfl⟩
                        · rw [if_neg (not_not_intro (bb_t (not_f b267)))] at h
                          refine ⟨trivial, ?_⟩
                          refine ⟨trivial, ?_⟩
                          refine ⟨trivial, ?_⟩
                          exact ⟨⟨trivial, trivial, trivial⟩, ih x94 x95 x96 x97 x98 x99 x100 x101 false (IntKind.wrap .i64 (x103 + (1 : Int))) r h⟩
                      · rw [if_pos (bb_f (not_t b266))] at h
                        refine ⟨b266, ?_⟩
                        refine ⟨b266, ?_⟩
                        refine ⟨b266, ?_⟩
                        refine ⟨b266, ?_⟩
                        refine ⟨b266, ?_⟩
                        refine ⟨rfl, ?_⟩
                        refine ⟨trivial, ?_⟩
                        obtain rfl := Option.some.inj h
                        exact ⟨⟨trivial, trivial, trivial⟩, rfl, rfl⟩
                    · rw [if_pos (bb_f (not_t b265))] at h
                      refine ⟨b265, ?_⟩
                      refine ⟨b265, ?_⟩
                      refine ⟨b265, ?_⟩
                      refine ⟨b265, ?_⟩
                      refine ⟨b265, ?_⟩
                      refine ⟨rfl, ?_⟩
                      refine ⟨rfl, ?_⟩
                      refine ⟨rfl, ?_⟩
                      refine ⟨rfl, ?_⟩
                      refine ⟨rfl, ?_⟩
                      refine ⟨rfl, ?_⟩
                      refine ⟨rfl, ?_⟩
                      refine ⟨trivial, ?_⟩
                      obtain rfl := Option.some.inj h
                      exact ⟨⟨trivial, trivial, trivial⟩, rfl, rfl⟩
                  · rw [if_pos (none_f (not_t b264))] at h
                    refine ⟨b264, ?_⟩
                    refine ⟨b264, ?_⟩
                    refine ⟨b264, ?_⟩
                    refine ⟨b264, ?_⟩
                    refine ⟨rfl, ?_⟩
                    refine ⟨rfl, ?_⟩
                    refine ⟨rfl, ?_⟩
                    refine ⟨rfl, ?_⟩
                    refine ⟨rfl, ?_⟩
                    refine ⟨rfl, ?_⟩
                    refine ⟨rfl, ?_⟩
                    refine ⟨rfl, ?_⟩
                    refine ⟨rfl, ?_⟩
                    refine ⟨rfl, ?_⟩
                    refine ⟨rfl, ?_⟩
                    refine ⟨rfl, ?_⟩
                    refine ⟨rfl, ?_⟩
                    refine ⟨trivial, ?_⟩
                    obtain rfl := Option.some.inj h
                    exact ⟨⟨trivial, trivial, trivial⟩, rfl, rfl⟩
              · rw [if_pos (bb_f (not_t b255))] at h
                refine ⟨b255, ?_⟩
                refine ⟨b255, ?_⟩
                refine ⟨b255, ?_⟩
                refine ⟨b255, ?_⟩
                refine ⟨rfl, ?_⟩
                refine ⟨trivial, ?_⟩
                obtain rfl := Option.some.inj h
                exact ⟨⟨trivial, trivial, trivial⟩, rfl, rfl⟩
            · rw [if_neg (beq_f b253)] at h
              refine ⟨trivial, ?_⟩
              refine ⟨fun b268 => ?_, fun b268 => ?_⟩
              · rw [if_pos (beq_t b268)] at h
                obtain ⟨g269, h⟩ := of_guard h
                obtain ⟨t270, ht270, h⟩ := of_bind h
                refine ⟨t270, ?_⟩
                refine ⟨trivial, g269, trivial, trivial, (by decide), trivial, ⟨trace_Resume.fun_ ht270, trivial⟩, trivial, ?_⟩
                refine ⟨trivial, ?_⟩
                refine ⟨trivial, ?_⟩
                refine ⟨fun b271 => ?_, fun b271 => ?_⟩
                · rw [if_pos (bb_f (not_t b271))] at h
                  refine ⟨trivial, ?_⟩
                  obtain rfl := Option.some.inj h
                  exact ⟨⟨trivial, trivial, trivial⟩, rfl, rfl⟩
                · rw [if_neg (not_not_intro (bb_t (not_f b271)))] at h
                  refine ⟨trivial, ?_⟩
                  refine ⟨fun b272 => ?_, fun b272 => ?_⟩
                  · rw [if_pos (none_t b272)] at h
                    refine ⟨trivial, ?_⟩
                    refine ⟨b272, ?_⟩
                    refine ⟨trivial, ?_⟩
                    refine ⟨trivial, ?_⟩
                    refine ⟨trivial, ?_⟩
                    obtain ⟨t273, ht273, h⟩ := of_bind h
                    refine ⟨t273, ⟨trace_Check.fun_ ht273, trivial⟩, ?_⟩
                    refine ⟨trivial, ?_⟩
                    refine ⟨fun b274 => ?_, fun b274 => ?_⟩
                    · rw [if_neg (not_not_intro (none_t (not_f b274)))] at h
                      refine ⟨b274, ?_⟩
                      refine ⟨trivial, ?_⟩
                      refine ⟨b274, ?_⟩
                      refine ⟨b274, ?_⟩
                      refine ⟨trivial, ?_⟩
                      refine ⟨b274, ?_⟩
                      refine ⟨fun b275 => ?_, fun b275 => ?_⟩
                      · rw [if_neg (not_not_intro (bb_t (not_f b275)))] at h
                        refine ⟨b275, ?_⟩
                        refine ⟨trivial, ?_⟩
                        refine ⟨b275, ?_⟩
                        refine ⟨trivial, ?_⟩
                        refine ⟨b275, ?_⟩
                        refine ⟨b275, ?_⟩
                        refine ⟨trivial, ?_⟩
                        refine ⟨b275, ?_⟩
                        refine ⟨fun b276 => ?_, fun b276 => ?_⟩
                        · rw [if_neg (not_not_intro (bb_t (not_f b276)))] at h
                          refine ⟨b276, ?_⟩
                          refine ⟨trivial, ?_⟩
                          refine ⟨b276, ?_⟩
                          refine ⟨trivial, ?_⟩
                          refine ⟨b276, ?_⟩
                          refine ⟨b276, ?_⟩
                          refine ⟨trivial, ?_⟩
                          refine ⟨b276, ?_⟩
                          refine ⟨fun b277 => ?_, fun b277 => ?_⟩
                          · rw [if_pos (bb_f (not_t b277))] at h
                            refine ⟨trivial, ?_⟩
                            obtain rfl := Option.some.inj h
                            exact ⟨⟨trivial, trivial, trivial⟩, rfl, rfl⟩
                          · rw [if_neg (not_not_intro (bb_t (not_f b277)))] at h
                            refine ⟨trivial, ?_⟩
                            refine ⟨trivial, ?_⟩
                            refine ⟨trivial, ?_⟩
                            exact ⟨⟨trivial, trivial, trivial⟩, ih t270.1 t270.2.1 t270.2.2.1 t270.2.2.2.1 t270.2.2.2.2.1 t270.2.2.2.2.2.1 x100 false false (IntKind.wrap .i64 (x103 + (1 : Int))) r h⟩
                        · rw [if_pos (bb_f (not_t b276))] at h
                          refine ⟨b276, ?_⟩
                          refine ⟨b276, ?_⟩
                          refine ⟨b276, ?_⟩
                          refine ⟨b276, ?_⟩
                          refine ⟨b276, ?_⟩
                          refine ⟨rfl, ?_⟩
                          refine ⟨trivial, ?_⟩
                          obtain rfl := Option.some.inj h
                          exact ⟨⟨trivial, trivial, trivial⟩, rfl, rfl⟩
                      · rw [if_pos (bb_f (not_t b275))] at h
                        refine ⟨b275, ?_⟩
                        refine ⟨b275, ?_⟩
                        refine ⟨b275, ?_⟩
                        refine ⟨b275, ?_⟩
                        refine ⟨b275, ?_⟩
                        refine ⟨rfl, ?_⟩
                        refine ⟨rfl, ?_⟩
                        refine ⟨rfl, ?_⟩
                        refine ⟨rfl, ?_⟩
                        refine ⟨rfl, ?_⟩
                        refine ⟨rfl, ?_⟩
                        refine ⟨rfl, ?_⟩
                        refine ⟨trivial, ?_⟩
                        obtain rfl := Option.some.inj h
                        exact ⟨⟨trivial, trivial, trivial⟩, rfl, rfl⟩
                    · rw [if_pos (none_f (not_t b274))] at h
                      refine ⟨b274, ?_⟩
                      refine ⟨b274, ?_⟩
                      refine ⟨b274, ?_⟩
                      refine ⟨b274, ?_⟩
                      refine ⟨rfl, ?_⟩
                      refine ⟨rfl, ?_⟩
                      refine ⟨rfl, ?_⟩
                      refine ⟨rfl, ?_⟩
                      refine ⟨rfl, ?_⟩
                      refine ⟨rfl, ?_⟩
                      refine ⟨rfl, ?_⟩
                      refine ⟨rfl, ?_⟩
                      refine ⟨rfl, ?_⟩
                      refine ⟨rfl, ?_⟩
                      refine ⟨rfl, ?_⟩
                      refine ⟨rfl, ?_⟩
                      refine ⟨rfl, ?_⟩
                      refine ⟨trivial, ?_⟩
                      obtain rfl := Option.some.inj h
                      exact ⟨⟨trivial, trivial, trivial⟩, rfl, rfl⟩
                  · rw [if_neg (none_f b272)] at h
                    refine ⟨trivial, ?_⟩
                    refine ⟨b272, ?_⟩
                    refine ⟨trivial, ?_⟩
                    obtain ⟨t278, ht278, h⟩ := of_bind h
                    refine ⟨t278, ⟨trace_Check.fun_ ht278, trivial⟩, ?_⟩
                    refine ⟨trivial, ?_⟩
                    refine ⟨fun b279 => ?_, fun b279 => ?_⟩
                    · rw [if_neg (not_not_intro (none_t (not_f b279)))] at h
                      refine ⟨b279, ?_⟩
                      refine ⟨trivial, ?_⟩
                      refine ⟨b279, ?_⟩
                      refine ⟨b279, ?_⟩
                      refine ⟨trivial, ?_⟩
                      refine ⟨b279, ?_⟩
                      refine ⟨fun b280 => ?_, fun b280 => ?_⟩
                      · rw [if_neg (not_not_intro (bb_t (not_f b280)))] at h
                        refine ⟨b280, ?_⟩
                        refine ⟨trivial, ?_⟩
                        refine ⟨b280, ?_⟩
                        refine ⟨trivial, ?_⟩
                        refine ⟨b280, ?_⟩
                        refine ⟨b280, ?_⟩
                        refine ⟨trivial, ?_⟩
                        refine ⟨b280, ?_⟩
                        refine ⟨fun b281 => ?_, fun b281 => ?_⟩
                        · rw [if_neg (not_not_intro (bb_t (not_f b281)))] at h
                          refine ⟨b281, ?_⟩
                          refine ⟨trivial, ?_⟩
                          refine ⟨b281, ?_⟩
                          refine ⟨trivial, ?_⟩
                          refine ⟨b281, ?_⟩
                          refine ⟨b281, ?_⟩
                          refine ⟨trivial, ?_⟩
                          refine ⟨b281, ?_⟩
                          refine ⟨fun b282 => ?_, fun b282 => ?_⟩
                          · rw [if_pos (bb_f (not_t b282))] at h
                            refine ⟨trivial, ?_⟩
                            obtain rfl := Option.some.inj h
                            exact ⟨⟨trivial, trivial, trivial⟩, rfl, rfl⟩
                          · rw [if_neg (not_not_intro (bb_t (not_f b282)))] at h
                            refine ⟨trivial, ?_⟩
                            refine ⟨trivial, ?_⟩
                            refine ⟨trivial, ?_⟩
                            exact ⟨⟨trivial, trivial, trivial⟩, ih x94 x95 x96 x97 x98 x99 x100 x101 x102 (IntKind.wrap .i64 (x103 + (1 : Int))) r h⟩
                        · rw [if_pos (bb_f (not_t b281))] at h
                          refine ⟨b281, ?_⟩
                          refine ⟨b281, ?_⟩
                          refine ⟨b281, ?_⟩
                          refine ⟨b281, ?_⟩
                          refine ⟨b281, ?_⟩
                          refine ⟨rfl, ?_⟩
                          refine ⟨trivial, ?_⟩
                          obtain rfl := Option.some.inj h
                          exact ⟨⟨trivial, trivial, trivial⟩, rfl, rfl⟩
                      · rw [if_pos (bb_f (not_t b280))] at h
                        refine ⟨b280, ?_⟩
                        refine ⟨b280, ?_⟩
                        refine ⟨b280, ?_⟩
                        refine ⟨b280, ?_⟩
                        refine ⟨b280, ?_⟩
                        refine ⟨rfl, ?_⟩
                        refine ⟨rfl, ?_⟩
                        refine ⟨rfl, ?_⟩
                        refine ⟨rfl, ?_⟩
                        refine ⟨rfl, ?_⟩
                        refine ⟨rfl, ?_⟩
                        refine ⟨rfl, ?_⟩
                        refine ⟨trivial, ?_⟩
                        obtain rfl := Option.some.inj h
                        exact ⟨⟨trivial, trivial, trivial⟩, rfl, rfl⟩
                    · rw [if_pos (none_f (not_t b279))] at h
                      refine ⟨b279, ?_⟩
                      refine ⟨b279, ?_⟩
                      refine ⟨b279, ?_⟩
                      refine ⟨b279, ?_⟩
                      refine ⟨rfl, ?_⟩
                      refine ⟨rfl, ?_⟩
                      refine ⟨rfl, ?_⟩
                      refine ⟨rfl, ?_⟩
                      refine ⟨rfl, ?_⟩
                      refine ⟨rfl, ?_⟩
                      refine ⟨rfl, ?_⟩
                      refine ⟨rfl, ?_⟩
                      refine ⟨rfl, ?_⟩
                      refine ⟨rfl, ?_⟩
                      refine ⟨rfl, ?_⟩
                      refine ⟨rfl, ?_⟩
                      refine ⟨rfl, ?_⟩
                      refine ⟨trivial, ?_⟩
                      obtain rfl := Option.some.inj h
                      exact ⟨⟨trivial, trivial, trivial⟩, rfl, rfl⟩
              · rw [if_neg (beq_f b268)] at h
                refine ⟨trivial, ?_⟩
                refine ⟨fun b283 => ?_, fun b283 => ?_⟩
                · rw [if_pos (beq_t b283)] at h
                  refine ⟨trivial, ?_⟩
                  obtain ⟨t284, ht284, h⟩ := of_bind h
                  refine ⟨t284, ⟨trace_Free.fun_ ht284, trivial⟩, ?_⟩
                  refine ⟨trivial, ?_⟩
                  refine ⟨trivial, ?_⟩
                  refine ⟨rfl, ?_⟩
                  refine ⟨trivial, ?_⟩
                  refine ⟨trivial, ?_⟩
                  refine ⟨trivial, ?_⟩
                  obtain ⟨t285, ht285, h⟩ := of_bind h
                  refine ⟨t285, ⟨trace_Check.fun_ ht285, trivial⟩, ?_⟩
                  refine ⟨trivial, ?_⟩
                  refine ⟨fun b286 => ?_, fun b286 => ?_⟩
                  · rw [if_neg (not_not_intro (none_t (not_f b286)))] at h
                    refine ⟨b286, ?_⟩
                    refine ⟨trivial, ?_⟩
                    refine ⟨b286, ?_⟩
                    refine ⟨b286, ?_⟩
                    refine ⟨trivial, ?_⟩
                    refine ⟨b286, ?_⟩
                    refine ⟨fun b287 => ?_, fun b287 => ?_⟩
                    · rw [if_neg (not_not_intro (bb_t (not_f b287)))] at h
                      refine ⟨b287, ?_⟩
                      refine ⟨trivial, ?_⟩
                      refine ⟨b287, ?_⟩
                      refine ⟨trivial, ?_⟩
                      refine ⟨b287, ?_⟩
                      refine ⟨b287, ?_⟩
                      refine ⟨trivial, ?_⟩
                      refine ⟨b287, ?_⟩
                      refine ⟨fun b288 => ?_, fun b288 => ?_⟩
                      · rw [if_neg (not_not_intro (bb_t (not_f b288)))] at h
                        refine ⟨b288, ?_⟩
                        refine ⟨trivial, ?_⟩
                        refine ⟨b288, ?_⟩
                        refine ⟨trivial, ?_⟩
                        refine ⟨b288, ?_⟩
                        refine ⟨b288, ?_⟩
                        refine ⟨trivial, ?_⟩
                        refine ⟨b288, ?_⟩
                        refine ⟨fun b289 => ?_, fun b289 => ?_⟩
                        · rw [if_pos (bb_f (not_t b289))] at h
                          refine ⟨trivial, ?_⟩
                          obtain rfl := Option.some.inj h
                          exact ⟨⟨trivial, trivial, trivial⟩, rfl, rfl⟩
                        · rw [if_neg (not_not_intro (bb_t (not_f b289)))] at h
                          refine ⟨trivial, ?_⟩
                          refine ⟨trivial, ?_⟩
                          refine ⟨trivial, ?_⟩
                          exact ⟨⟨trivial, trivial, trivial⟩, ih t284.1 t284.2.1 t284.2.2.1 t284.2.2.2.1 t284.2.2.2.2.1 t284.2.2.2.2.2 false false false (IntKind.wrap .i64 (x103 + (1 : Int))) r h⟩
                      · rw [if_pos (bb_f (not_t b288))] at h
                        refine ⟨b288, ?_⟩
                        refine ⟨b288, ?_⟩
                        refine ⟨b288, ?_⟩
                        refine ⟨b288, ?_⟩
                        refine ⟨b288, ?_⟩
                        refine ⟨rfl, ?_⟩
                        refine ⟨trivial, ?_⟩
                        obtain rfl := Option.some.inj h
                        exact ⟨⟨trivial, trivial, trivial⟩, rfl, rfl⟩
                    · rw [if_pos (bb_f (not_t b287))] at h
                      refine ⟨b287, ?_⟩
                      refine ⟨b287, ?_⟩
                      refine ⟨b287, ?_⟩
                      refine ⟨b287, ?_⟩
                      refine ⟨b287, ?_⟩
                      refine ⟨rfl, ?_⟩
                      refine ⟨rfl, ?_⟩
                      refine ⟨rfl, ?_⟩
                      refine ⟨rfl, ?_⟩
                      refine ⟨rfl, ?_⟩
                      refine ⟨rfl, ?_⟩
                      refine ⟨rfl, ?_⟩
                      refine ⟨trivial, ?_⟩
                      obtain rfl := Option.some.inj h
                      exact ⟨⟨trivial, trivial, trivial⟩, rfl, rfl⟩
                  · rw [if_pos (none_f (not_t b286))] at h
                    refine ⟨b286, ?_⟩
                    refine ⟨b286, ?_⟩
                    refine ⟨b286, ?_⟩
                    refine ⟨b286, ?_⟩
                    refine ⟨rfl, ?_⟩
                    refine ⟨rfl, ?_⟩
                    refine ⟨rfl, ?_⟩
                    refine ⟨rfl, ?_⟩
                    refine ⟨rfl, ?_⟩
                    refine ⟨rfl, ?_⟩
                    refine ⟨rfl, ?_⟩
                    refine ⟨rfl, ?_⟩
                    refine ⟨rfl, ?_⟩
                    refine ⟨rfl, ?_⟩
                    refine ⟨rfl, ?_⟩
                    refine ⟨rfl, ?_⟩
                    refine ⟨rfl, ?_⟩
                    refine ⟨trivial, ?_⟩
                    obtain rfl := Option.some.inj h
                    exact ⟨⟨trivial, trivial, trivial⟩, rfl, rfl⟩
                · rw [if_neg (beq_f b283)] at h
                  refine ⟨trivial, ?_⟩
                  obtain ⟨t290, ht290, h⟩ := of_bind h
                  refine ⟨t290, ⟨trace_Take.fun_ ht290, trivial⟩, ?_⟩
                  refine ⟨trivial, ?_⟩
                  refine ⟨trivial, ?_⟩
                  refine ⟨rfl, ?_⟩
                  refine ⟨trivial, ?_⟩
                  refine ⟨trivial, ?_⟩
                  refine ⟨trivial, ?_⟩
                  obtain ⟨t291, ht291, h⟩ := of_bind h
                  refine ⟨t291, ⟨trace_Check.fun_ ht291, trivial⟩, ?_⟩
                  refine ⟨trivial, ?_⟩
                  refine ⟨fun b292 => ?_, fun b292 => ?_⟩
                  · rw [if_neg (not_not_intro (none_t (not_f b292)))] at h
                    refine ⟨b292, ?_⟩
                    refine ⟨trivial, ?_⟩
                    refine ⟨b292, ?_⟩
                    refine ⟨b292, ?_⟩
                    refine ⟨trivial, ?_⟩
                    refine ⟨b292, ?_⟩
                    refine ⟨fun b293 => ?_, fun b293 => ?_⟩
                    · rw [if_neg (not_not_intro (bb_t (not_f b293)))] at h
                      refine ⟨b293, ?_⟩
                      refine ⟨trivial, ?_⟩
                      refine ⟨b293, ?_⟩
                      refine ⟨trivial, ?_⟩
                      refine ⟨b293, ?_⟩
                      refine ⟨b293, ?_⟩
                      refine ⟨trivial, ?_⟩
                      refine ⟨b293, ?_⟩
                      refine ⟨fun b294 => ?_, fun b294 => ?_⟩
                      · rw [if_neg (not_not_intro (bb_t (not_f b294)))] at h
                        refine ⟨b294, ?_⟩
                        refine ⟨trivial, ?_⟩
                        refine ⟨b294, ?_⟩
                        refine ⟨trivial, ?_⟩
                        refine ⟨b294, ?_⟩
                        refine ⟨b294, ?_⟩
                        refine ⟨trivial, ?_⟩
                        refine ⟨b294, ?_⟩
                        refine ⟨fun b295 => ?_, fun b295 => ?_⟩
                        · rw [if_pos (bb_f (not_t b295))] at h
                          refine ⟨trivial, ?_⟩
                          obtain rfl := Option.some.inj h
                          exact ⟨⟨trivial, trivial, trivial⟩, rfl, rfl⟩
                        · rw [if_neg (not_not_intro (bb_t (not_f b295)))] at h
                          refine ⟨trivial, ?_⟩
                          refine ⟨trivial, ?_⟩
                          refine ⟨trivial, ?_⟩
                          exact ⟨⟨trivial, trivial, trivial⟩, ih t290.2.1 t290.2.2.1 t290.2.2.2.1 t290.2.2.2.2.1 t290.2.2.2.2.2.1 t290.2.2.2.2.2.2 x100 x101 x102 (IntKind.wrap .i64 (x103 + (1 : Int))) r h⟩
                      · rw [if_pos (bb_f (not_t b294))] at h
                        refine ⟨b294, ?_⟩
                        refine ⟨b294, ?_⟩
                        refine ⟨b294, ?_⟩
                        refine ⟨b294, ?_⟩
                        refine ⟨b294, ?_⟩
                        refine ⟨rfl, ?_⟩
                        refine ⟨trivial, ?_⟩
                        obtain rfl := Option.some.inj h
                        exact ⟨⟨trivial, trivial, trivial⟩, rfl, rfl⟩
                    · rw [if_pos (bb_f (not_t b293))] at h
                      refine ⟨b293, ?_⟩
                      refine ⟨b293, ?_⟩
                      refine ⟨b293, ?_⟩
                      refine ⟨b293, ?_⟩
                      refine ⟨b293, ?_⟩
                      refine ⟨rfl, ?_⟩
                      refine ⟨rfl, ?_⟩
                      refine ⟨rfl, ?_⟩
                      refine ⟨rfl, ?_⟩
                      refine ⟨rfl, ?_⟩
                      refine ⟨rfl, ?_⟩
                      refine ⟨rfl, ?_⟩
                      refine ⟨trivial, ?_⟩
                      obtain rfl := Option.some.inj h
                      exact ⟨⟨trivial, trivial, trivial⟩, rfl, rfl⟩
                  · rw [if_pos (none_f (not_t b292))] at h
                    refine ⟨b292, ?_⟩
                    refine ⟨b292, ?_⟩
                    refine ⟨b292, ?_⟩
                    refine ⟨b292, ?_⟩
                    refine ⟨rfl, ?_⟩
                    refine ⟨rfl, ?_⟩
                    refine ⟨rfl, ?_⟩
                    refine ⟨rfl, ?_⟩
                    refine ⟨rfl, ?_⟩
                    refine ⟨rfl, ?_⟩
                    refine ⟨rfl, ?_⟩
                    refine ⟨rfl, ?_⟩
                    refine ⟨rfl, ?_⟩
                    refine ⟨rfl, ?_⟩
                    refine ⟨rfl, ?_⟩
                    refine ⟨rfl, ?_⟩
                    refine ⟨rfl, ?_⟩
                    refine ⟨trivial, ?_⟩
                    obtain rfl := Option.some.inj h
                    exact ⟨⟨trivial, trivial, trivial⟩, rfl, rfl⟩
      · rw [if_neg (of_decide_eq_false b209)] at h
        obtain rfl := Option.some.inj h
        exact ⟨⟨trivial, trivial, trivial⟩, rfl, rfl⟩
    · rw [if_neg (of_decide_eq_false b208)] at h
      refine ⟨b208, ?_⟩
      refine ⟨b208, ?_⟩
      refine ⟨rfl, ?_⟩
      obtain rfl := Option.some.inj h
      exact ⟨⟨trivial, trivial, trivial⟩, rfl, rfl⟩
def halterlaw27_TraceOnce.f (a0 : (List (Int × (Int × (Int × Int))))) : Option Bool :=
  (halterlaw27_TraceOnce.l0 a0 FUEL (0 : Int) false (0 : Int) (0 : Int) (0 : Int) false false false false (0 : Int)).bind fun t207 =>
  match t207 with
  | .inl t311 =>
    halterlaw27_sure.f.bind fun t318 =>
    some t318
  | .inr t319 =>
    some false
def halterlaw27_TraceOnce.R (r : Bool) : Tm := .v (.one (.sc (.bool r)))
theorem halterlaw27_TraceOnce.fun_ {a0 : (List (Int × (Int × (Int × Int))))} {r : Bool} (h : halterlaw27_TraceOnce.f a0 = some r) : Fun cfg 4 [.one (.fs (.pair (.int .i64) (.pair (.int .i64) (.pair (.int .i64) (.int .i64)))) a0 false)] [] (halterlaw27_TraceOnce.R r) [] := by
  unfold halterlaw27_TraceOnce.f at h
  refine fun_of_run cfg_ok (f := 4) (fn := Tryd.f4) Tryd.func4 rfl (by kernel_rfl) (rs := [.tmp 2]) rfl (nt := 177) rfl (l := fin) (k := (.adj [] (.adj [] (.adj [] (.adj [] (.adj [.keep [0, 3, 4, 5, 6, 7]] (.alt (.sub (Int × Bool × Int × Int × Int × Bool) (fun _ => (.exit 0)) (fun t311 => ⟨[.any, .any, .any, .any, .any, .any, .any, .any, .any, .any, .any, .any, .any, .any, .any, .any, .any, .any, .any, .any, .any, .any, .any, .any, .any, .any, .any, .any, .any, .any, .any, .any, .any, .any, .any, .any, .any, .any, .any, .any, .any, .any, .any, .any, .any, .any, .any, .any, .any, .any, .any, .any, .any, .any, .any, .any, .any, .any, .any, .any, .any, .any, .any, .any, .any, .any, .any, .any, .any, .any, .any, .any, .any, .any, .any, .any, .any, .any, .any, .any, .any, .any, .any, .any, .any, .any, .any, .any, .any, .any, .any, .any, .any, .any, .any, .any, .any, .any, .any, .any, .any, .any, .any, .any, .any, .any, .any, .any, .any, .any, .any, .any, .any, .any, .any, .any, .any, .any, .any, .any, .any, .any, .any, .any, .any, .any, .any, .any, .any, .any, .any, .any, .any, .any, .any, .any, .any, .any, .any, .any, .any, .any, .any, .any, .any, .any, .any, .any, .any, .any, .any, .any, .any, .any, .any, .any, .any, .any, .any, .any, .any, .any, .any, .any, .any, .any, .any, .any, .any, .any, .any, .any, .any, .any, .any, .any, .any], [.ex false [.c (.sc (.int .i64 t311.1)), .c (.sc (.bool t311.2.1)), .c (.sc (.int .u32 t311.2.2.1)), .c (.sc (.int .i64 t311.2.2.2.1)), .c (.sc (.int .i64 t311.2.2.2.2.1)), .c (.sc (.bool t311.2.2.2.2.2))] 26], 0⟩) (fun t311 => (.call true [] (Bool) (fun t318 => halterlaw27_sure.R t318) (fun t318 => (.adj [] (.adj [.drop 0] .nil)))))) (.sub (Int × Bool × Int × Int × Int × Bool) (fun _ => .ret) (fun t319 => ⟨[.any, .any, .v (.one (.sc (.bool false))), .any, .any, .any, .any, .any, .any, .any, .any, .any, .any, .any, .any, .any, .any, .any, .any, .any, .any, .any, .any, .any, .any, .any, .any, .any, .any, .any, .any, .any, .any, .any, .any, .any, .any, .any, .any, .any, .any, .any, .any, .any, .any, .any, .any, .any, .any, .any, .any, .any, .any, .any, .any, .any, .any, .any, .any, .any, .any, .any, .any, .any, .any, .any, .any, .any, .any, .any, .any, .any, .any, .any, .any, .any, .any, .any, .any, .any, .any, .any, .any, .any, .any, .any, .any, .any, .any, .any, .any, .any, .any, .any, .any, .any, .any, .any, .any, .any, .any, .any, .any, .any, .any, .any, .any, .any, .any, .any, .any, .any, .any, .any, .any, .any, .any, .any, .any, .any, .any, .any, .any, .any, .any, .any, .any, .any, .any, .any, .any, .any, .any, .any, .any, .any, .any, .any, .any, .any, .any, .any, .any, .any, .any, .any, .any, .any, .any, .any, .any, .any, .any, .any, .any, .any, .any, .any, .any, .any, .any, .any, .any, .any, .any, .any, .any, .any, .any, .any, .any, .any, .any, .any, .any, .any, .any], [.ex false [.c (.sc (.int .i64 t319.1)), .c (.sc (.bool t319.2.1)), .c (.sc (.int .u32 t319.2.2.1)), .c (.sc (.int .i64 t319.2.2.2.1)), .c (.sc (.int .i64 t319.2.2.2.2.1)), .c (.sc (.bool t319.2.2.2.2.2))] 26], 0⟩) (fun t319 => (.adj [.drop 0] .nil)))))))))) (to_goal (q := (True ∧ (True ∧ (True) ∧ (True ∧ (True ∧ (((True) ∧ True) ∧ ((∃ t311 : Int × Bool × Int × Int × Int × Bool, Trip cfg (.loop (cpath (Tryd.f4.body.getD .skip) [1, 1, 1, 0, 1, 0, 0])) ⟨[.v (.one (.fs (.pair (.int .i64) (.pair (.int .i64) (.pair (.int .i64) (.int .i64)))) a0 false)), .any, .any, .v (.one (.ptr 0 ⟨0, 0, 0, 0⟩)), .v (.one (.sc (.bool false))), .v (.one (.sc (.bool false))), .v (.one (.sc (.bool false))), .v (.one (.sc (.int .i64 (0 : Int)))), .any, .any, .any, .any, .any, .any, .any, .any, .any, .any, .any, .any, .any, .any, .any, .any, .any, .any, .any, .any, .any, .any, .any, .any, .any, .any, .any, .any, .any, .any, .any, .any, .any, .any, .any, .any, .any, .any, .any, .any, .any, .any, .any, .any, .any, .any, .any, .any, .any, .any, .any, .any, .any, .any, .any, .any, .any, .any, .any, .any, .any, .any, .any, .any, .any, .any, .any, .any, .any, .any, .any, .any, .any, .any, .any, .any, .any, .any, .any, .any, .any, .any, .any, .any, .any, .any, .any, .any, .any, .any, .any, .any, .any, .any, .any, .any, .any, .any, .any, .any, .any, .any, .any, .any, .any, .any, .any, .any, .any, .any, .any, .any, .any, .any, .any, .any, .any, .any, .any, .any, .any, .any, .any, .any, .any, .any, .any, .any, .any, .any, .any, .any, .any, .any, .any, .any, .any, .any, .any, .any, .any, .any, .any, .any, .any, .any, .any, .any, .any, .any, .any, .any, .any, .any, .any, .any, .any, .any, .any, .any, .any, .any, .any, .any, .any, .any, .any, .any, .any], [.ex false [.c (.sc (.int .i64 (0 : Int))), .c (.sc (.bool false)), .c (.sc (.int .u32 (0 : Int))), .c (.sc (.int .i64 (0 : Int))), .c (.sc (.int .i64 (0 : Int))), .c (.sc (.bool false))] 26], 0⟩ (fun e s => e = (.exit 0) ∧ s = ⟨[.any, .any, .any, .any, .any, .any, .any, .any, .any, .any, .any, .any, .any, .any, .any, .any, .any, .any, .any, .any, .any, .any, .any, .any, .any, .any, .any, .any, .any, .any, .any, .any, .any, .any, .any, .any, .any, .any, .any, .any, .any, .any, .any, .any, .any, .any, .any, .any, .any, .any, .any, .any, .any, .any, .any, .any, .any, .any, .any, .any, .any, .any, .any, .any, .any, .any, .any, .any, .any, .any, .any, .any, .any, .any, .any, .any, .any, .any, .any, .any, .any, .any, .any, .any, .any, .any, .any, .any, .any, .any, .any, .any, .any, .any, .any, .any, .any, .any, .any, .any, .any, .any, .any, .any, .any, .any, .any, .any, .any, .any, .any, .any, .any, .any, .any, .any, .any, .any, .any, .any, .any, .any, .any, .any, .any, .any, .any, .any, .any, .any, .any, .any, .any, .any, .any, .any, .any, .any, .any, .any, .any, .any, .any, .any, .any, .any, .any, .any, .any, .any, .any, .any, .any, .any, .any, .any, .any, .any, .any, .any, .any, .any, .any, .any, .any, .any, .any, .any, .any, .any, .any, .any, .any, .any, .any, .any, .any], [.ex false [.c (.sc (.int .i64 t311.1)), .c (.sc (.bool t311.2.1)), .c (.sc (.int .u32 t311.2.2.1)), .c (.sc (.int .i64 t311.2.2.2.1)), .c (.sc (.int .i64 t311.2.2.2.2.1)), .c (.sc (.bool t311.2.2.2.2.2))] 26], 0⟩) ∧ (∃ t318 : Bool, (Fun cfg 20 [] [] (halterlaw27_sure.R t318) [] ∧ True) ∧ (True ∧ ((True) ∧ ((True) ∧ True) ∧ (.v (.one (.sc (.bool t318))) : Tm) = halterlaw27_TraceOnce.R r ∧ ([] : List Box) = [])))) ∨ (∃ t319 : Int × Bool × Int × Int × Int × Bool, Trip cfg (.loop (cpath (Tryd.f4.body.getD .skip) [1, 1, 1, 0, 1, 0, 0])) ⟨[.v (.one (.fs (.pair (.int .i64) (.pair (.int .i64) (.pair (.int .i64) (.int .i64)))) a0 false)), .any, .any, .v (.one (.ptr 0 ⟨0, 0, 0, 0⟩)), .v (.one (.sc (.bool false))), .v (.one (.sc (.bool false))), .v (.one (.sc (.bool false))), .v (.one (.sc (.int .i64 (0 : Int)))), .any, .any, .any, .any, .any, .any, .any, .any, .any, .any, .any, .any, .any, .any, .any, .any, .any, .any, .any, .any, .any, .any, .any, .any, .any, .any, .any, .any, .any, .any, .any, .any, .any, .any, .any, .any, .any, .any, .any, .any, .any, .any, .any, .any, .any, .any, .any, .any, .any, .any, .any, .any, .any, .any, .any, .any, .any, .any, .any, .any, .any, .any, .any, .any, .any, .any, .any, .any, .any, .any, .any, .any, .any, .any, .any, .any, .any, .any, .any, .any, .any, .any, .any, .any, .any, .any, .any, .any, .any, .any, .any, .any, .any, .any, .any, .any, .any, .any, .any, .any, .any, .any, .any, .any, .any, .any, .any, .any, .any, .any, .any, .any, .any, .any, .any, .any, .any, .any, .any, .any, .any, .any, .any, .any, .any, .any, .any, .any, .any, .any, .any, .any, .any, .any, .any, .any, .any, .any, .any, .any, .any, .any, .any, .any, .any, .any, .any, .any, .any, .any, .any, .any, .any, .any, .any, .any, .any, .any, .any, .any, .any, .any, .any, .any, .any, .any, .any, .any, .any], [.ex false [.c (.sc (.int .i64 (0 : Int))), .c (.sc (.bool false)), .c (.sc (.int .u32 (0 : Int))), .c (.sc (.int .i64 (0 : Int))), .c (.sc (.int .i64 (0 : Int))), .c (.sc (.bool false))] 26], 0⟩ (fun e s => e = .ret ∧ s = ⟨[.any, .any, .v (.one (.sc (.bool false))), .any, .any, .any, .any, .any, .any, .any, .any, .any, .any, .any, .any, .any, .any, .any, .any, .any, .any, .any, .any, .any, .any, .any, .any, .any, .any, .any, .any, .any, .any, .any, .any, .any, .any, .any, .any, .any, .any, .any, .any, .any, .any, .any, .any, .any, .any, .any, .any, .any, .any, .any, .any, .any, .any, .any, .any, .any, .any, .any, .any, .any, .any, .any, .any, .any, .any, .any, .any, .any, .any, .any, .any, .any, .any, .any, .any, .any, .any, .any, .any, .any, .any, .any, .any, .any, .any, .any, .any, .any, .any, .any, .any, .any, .any, .any, .any, .any, .any, .any, .any, .any, .any, .any, .any, .any, .any, .any, .any, .any, .any, .any, .any, .any, .any, .any, .any, .any, .any, .any, .any, .any, .any, .any, .any, .any, .any, .any, .any, .any, .any, .any, .any, .any, .any, .any, .any, .any, .any, .any, .any, .any, .any, .any, .any, .any, .any, .any, .any, .any, .any, .any, .any, .any, .any, .any, .any, .any, .any, .any, .any, .any, .any, .any, .any, .any, .any, .any, .any, .any, .any, .any, .any, .any, .any], [.ex false [.c (.sc (.int .i64 t319.1)), .c (.sc (.bool t319.2.1)), .c (.sc (.int .u32 t319.2.2.1)), .c (.sc (.int .i64 t319.2.2.2.1)), .c (.sc (.int .i64 t319.2.2.2.2.1)), .c (.sc (.bool t319.2.2.2.2.2))] 26], 0⟩) ∧ ((True) ∧ ((True) ∧ True) ∧ (.v (.one (.sc (.bool false))) : Tm) = halterlaw27_TraceOnce.R r ∧ ([] : List Box) = []))))))))) (by kernel_rfl) ?_)
  refine ⟨trivial, ?_⟩
  refine ⟨trivial, ?_⟩
  refine ⟨trivial, ?_⟩
  refine ⟨trivial, ?_⟩
  refine ⟨trivial, ?_⟩
  obtain ⟨t207, ht207, h⟩ := of_bind h
  refine ⟨⟨trivial, trivial⟩, ?_⟩
  rcases t207 with t311 | t319
  · dsimp only at h
    left
    refine ⟨t311, Trip.loop FUEL (halterlaw27_TraceOnce.l0_ok a0 FUEL (0 : Int) false (0 : Int) (0 : Int) (0 : Int) false false false false (0 : Int) (.inl t311) ht207), ?_⟩
    obtain ⟨t318, ht318, h⟩ := of_bind h
    refine ⟨t318, ⟨halterlaw27_sure.fun_ ht318, trivial⟩, ?_⟩
    refine ⟨trivial, ?_⟩
    obtain rfl := Option.some.inj h
    exact ⟨trivial, ⟨trivial, trivial⟩, rfl, rfl⟩
  · dsimp only at h
    right
    refine ⟨t319, Trip.loop FUEL (halterlaw27_TraceOnce.l0_ok a0 FUEL (0 : Int) false (0 : Int) (0 : Int) (0 : Int) false false false false (0 : Int) (.inr t319) ht207), ?_⟩
    obtain rfl := Option.some.inj h
    exact ⟨trivial, ⟨trivial, trivial⟩, rfl, rfl⟩
end Go.Proofs.YtlaemcglemakjaaDoorGTraceOnce
