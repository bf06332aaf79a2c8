/- Printed by gen.py: the next part. -/
import Derived.Test.YtkaehhfdjenmcaaGSoftPartsp0
set_option linter.unusedVariables false
set_option maxRecDepth 100000
set_option maxHeartbeats 4000000
namespace Go.Proofs.YtkaehhfdjenmcaaGSoftParts
open Go Go.Proofs.YtkaehhfdjenmcaaE
theorem halterref02_Div.l2_ok (t1 : Bool) (t2 : Bool) (t25 : Bool × Int × Int × Bool) (t26 : Bool × Int × Int × Bool) (t33 : Int × Int) (t45 : Int × Int) : ∀ (n : Nat) (x53 : Int) (x54 : Int) (x55 : Int) (r : Int × Int), halterref02_Div.l2 t1 t2 t25 t26 t33 t45 n x53 x54 x55 = some r → TripN cfg (cpath (Try.f12.body.getD .skip) [1, 1, 1, 1, 1, 1, 1, 1, 1, 0, 1, 0, 0]) n (halterref02_Div.l2_S t1 t2 t25 t26 t33 t45 x53 x54 x55) (halterref02_Div.l2_Q t1 t2 t25 t26 t33 t45 r) := by
  intro n
  induction n with
  | zero => intro x53 x54 x55 r h; cases h
  | succ n ih =>
    intro x53 x54 x55 r h
    rw [halterref02_Div.l2] at h
    refine TripN.of_run cfg_ok (k := (.br (.adj [] (.adj [] (.adj [] (.adj [] (.adj [] (.adj [] (.adj [.keep [5, 6, 7, 8, 9, 10], .drop 2] .nil))))))) (.adj [.keep [5, 6, 7, 8, 9], .drop 2] .nil))) (to_goal (q := (True) ∧ (((decide (x55 < (60 : Int))) = true → (True ∧ (True ∧ (True ∧ (True) ∧ (True ∧ (True) ∧ (True) ∧ (t45.1 ≠ 0) ∧ (True) ∧ (True ∧ (True) ∧ (t45.1 ≠ 0) ∧ (True ∧ (True) ∧ (((True) ∧ (True) ∧ True) ∧ TripN cfg (cpath (Try.f12.body.getD .skip) [1, 1, 1, 1, 1, 1, 1, 1, 1, 0, 1, 0, 0]) n (halterref02_Div.l2_S t1 t2 t25 t26 t33 t45 (IntKind.wrap .u64 ((IntKind.wrap .u64 ((2 : Int) * x53)) + (IntKind.wrap .u64 (Int.tdiv (IntKind.wrap .u64 ((2 : Int) * x54)) t45.1)))) (Int.tmod (IntKind.wrap .u64 ((2 : Int) * x54)) t45.1) (IntKind.wrap .i64 (x55 + (1 : Int)))) (halterref02_Div.l2_Q t1 t2 t25 t26 t33 t45 r))))))))) ∧ ((decide (x55 < (60 : Int))) = false → (((True) ∧ (True) ∧ True) ∧ halterref02_Div.l2_Q t1 t2 t25 t26 t33 t45 r (.exit 4) ⟨[.any, .any, .any, .any, .any, .v (.one (.sc (.bool (!(t1 == t2))))), .v (.one (.ptr 0 ⟨0, 0, 0, 0⟩)), .v (.one (.ptr 1 ⟨0, 0, 0, 0⟩)), .v (.one (.sc (.int .u64 x53))), .v (.one (.sc (.int .u64 x54))), .any, .any, .any, .any, .any, .any, .any, .any, .any, .any, .any, .any, .any, .any, .any, .any, .any, .any, .any, .any, .any, .any, .any, .any, .any, .any, .any, .any, .any, .any, .any, .any, .any, .any, .any, .any, .any, .any, .any, .any, .any, .any, .any, .any, .any, .any, .any, .any, .any, .any, .any, .any, .any, .any, .any, .any, .any, .any, .any, .any, .any, .any, .any, .any, .any, .any, .any, .any, .any, .any, .any, .any, .any, .any, .any, .any, .any, .any, .any, .any, .any, .any, .any, .any, .any, .any, .any, .any, .any, .any, .any, .any, .any, .any, .any, .any, .any, .any, .any, .any, .any, .any, .any, .any, .any, .any, .any, .any, .any, .any, .any, .any, .any, .any], [.ex false [.c (.sc (.bool t25.1)), .c (.sc (.int .u64 t33.1)), .c (.sc (.int .i64 t33.2)), .c (.sc (.bool (z3 t25)))] 44, .ex false [.c (.sc (.bool t26.1)), .c (.sc (.int .u64 t45.1)), .c (.sc (.int .i64 t45.2)), .c (.sc (.bool (z3 t26)))] 44], 0⟩)))) (by kernel_rfl) ?_)
    refine ⟨trivial, ?_⟩
    refine ⟨fun b62 => ?_, fun b62 => ?_⟩
    · rw [if_pos (of_decide_eq_true b62)] at h
      refine ⟨trivial, ?_⟩
      refine ⟨trivial, ?_⟩
      refine ⟨trivial, ?_⟩
      refine ⟨trivial, ?_⟩
      refine ⟨trivial, ?_⟩
      refine ⟨trivial, ?_⟩
      refine ⟨trivial, ?_⟩
      obtain ⟨g64, h⟩ := of_guard h
      refine ⟨g64, ?_⟩
      refine ⟨trivial, ?_⟩
      refine ⟨trivial, ?_⟩
      refine ⟨trivial, ?_⟩
      obtain ⟨g63, h⟩ := of_guard h
      refine ⟨g63, ?_⟩
      refine ⟨trivial, ?_⟩
      refine ⟨trivial, ?_⟩
      exact ⟨⟨trivial, trivial, trivial⟩, ih (IntKind.wrap .u64 ((IntKind.wrap .u64 ((2 : Int) * x53)) + (IntKind.wrap .u64 (Int.tdiv (IntKind.wrap .u64 ((2 : Int) * x54)) t45.1)))) (Int.tmod (IntKind.wrap .u64 ((2 : Int) * x54)) t45.1) (IntKind.wrap .i64 (x55 + (1 : Int))) r h⟩
    · rw [if_neg (of_decide_eq_false b62)] at h
      obtain rfl := Option.some.inj h
      exact ⟨⟨trivial, trivial, trivial⟩, rfl, rfl⟩
def halterref02_Div.l3 (t1 : Bool) (t2 : Bool) (t82 : Bool × Int × Int × Bool) (t83 : Bool × Int × Int × Bool) : Nat → Int → Int → Option (Int × Int)
  | 0, _, _ => none
  | n + 1, x85, x86 =>
    if x85 < (4503599627370496 : Int) then
      halterref02_Div.l3 t1 t2 t82 t83 n (IntKind.wrap .u64 ((2 : Int) * x85)) (IntKind.wrap .i64 (x86 - (1 : Int)))
    else
      some (x85, x86)
def halterref02_Div.l3_S (t1 : Bool) (t2 : Bool) (t82 : Bool × Int × Int × Bool) (t83 : Bool × Int × Int × Bool) (x85 : Int) (x86 : Int) : St := ⟨[.any, .any, .any, .any, .any, .v (.one (.sc (.bool (!(t1 == t2))))), .v (.one (.ptr 0 ⟨0, 0, 0, 0⟩)), .v (.one (.ptr 1 ⟨0, 0, 0, 0⟩)), .any, .any, .any, .any, .any, .any, .any, .any, .any, .any, .any, .any, .any, .any, .any, .any, .any, .any, .any, .any, .any, .any, .any, .any, .any, .any, .any, .any, .any, .any, .any, .any, .any, .any, .any, .any, .any, .any, .any, .any, .any, .any, .any, .any, .any, .any, .any, .any, .any, .any, .any, .any, .any, .any, .any, .any, .any, .any, .any, .any, .any, .any, .any, .any, .any, .any, .any, .any, .any, .any, .any, .any, .any, .any, .any, .any, .any, .any, .any, .any, .any, .any, .any, .any, .any, .any, .any, .any, .any, .any, .any, .any, .any, .any, .any, .any, .any, .any, .any, .any, .any, .any, .any, .any, .any, .any, .any, .any, .any, .any, .any, .any, .any, .any, .any, .any], [.ex false [.c (.sc (.bool t82.1)), .c (.sc (.int .u64 x85)), .c (.sc (.int .i64 x86)), .c (.sc (.bool t82.2.2.2))] 44, .ex false [.c (.sc (.bool t83.1)), .c (.sc (.int .u64 t83.2.1)), .c (.sc (.int .i64 t83.2.2.1)), .c (.sc (.bool t83.2.2.2))] 44], 0⟩
def halterref02_Div.l3_Q (t1 : Bool) (t2 : Bool) (t82 : Bool × Int × Int × Bool) (t83 : Bool × Int × Int × Bool) (t : Int × Int) : Exit → St → Prop := fun e s => e = (.exit 0) ∧ s = ⟨[.any, .any, .any, .any, .any, .v (.one (.sc (.bool (!(t1 == t2))))), .v (.one (.ptr 0 ⟨0, 0, 0, 0⟩)), .v (.one (.ptr 1 ⟨0, 0, 0, 0⟩)), .any, .any, .any, .any, .any, .any, .any, .any, .any, .any, .any, .any, .any, .any, .any, .any, .any, .any, .any, .any, .any, .any, .any, .any, .any, .any, .any, .any, .any, .any, .any, .any, .any, .any, .any, .any, .any, .any, .any, .any, .any, .any, .any, .any, .any, .any, .any, .any, .any, .any, .any, .any, .any, .any, .any, .any, .any, .any, .any, .any, .any, .any, .any, .any, .any, .any, .any, .any, .any, .any, .any, .any, .any, .any, .any, .any, .any, .any, .any, .any, .any, .any, .any, .any, .any, .any, .any, .any, .any, .any, .any, .any, .any, .any, .any, .any, .any, .any, .any, .any, .any, .any, .any, .any, .any, .any, .any, .any, .any, .any, .any, .any, .any, .any, .any, .any], [.ex false [.c (.sc (.bool t82.1)), .c (.sc (.int .u64 t.1)), .c (.sc (.int .i64 t.2)), .c (.sc (.bool t82.2.2.2))] 44, .ex false [.c (.sc (.bool t83.1)), .c (.sc (.int .u64 t83.2.1)), .c (.sc (.int .i64 t83.2.2.1)), .c (.sc (.bool t83.2.2.2))] 44], 0⟩
theorem halterref02_Div.l3_ok (t1 : Bool) (t2 : Bool) (t82 : Bool × Int × Int × Bool) (t83 : Bool × Int × Int × Bool) : ∀ (n : Nat) (x85 : Int) (x86 : Int) (r : Int × Int), halterref02_Div.l3 t1 t2 t82 t83 n x85 x86 = some r → TripN cfg (cpath (Try.f12.body.getD .skip) [1, 1, 1, 1, 1, 1, 0, 0, 0]) n (halterref02_Div.l3_S t1 t2 t82 t83 x85 x86) (halterref02_Div.l3_Q t1 t2 t82 t83 r) := by
  intro n
  induction n with
  | zero => intro x85 x86 r h; cases h
  | succ n ih =>
    intro x85 x86 r h
    rw [halterref02_Div.l3] at h
    refine TripN.of_run cfg_ok (k := (.br (.adj [] (.adj [] (.adj [] (.adj [.keep [5, 6, 7], .drop 2] .nil)))) (.adj [.keep [5, 6, 7], .drop 2] .nil))) (to_goal (q := (True) ∧ (True) ∧ (((decide (x85 < (4503599627370496 : Int))) = true → (True ∧ (True ∧ (True ∧ (True) ∧ (True) ∧ (True) ∧ (True) ∧ (True) ∧ (True) ∧ (((True) ∧ (True) ∧ True) ∧ TripN cfg (cpath (Try.f12.body.getD .skip) [1, 1, 1, 1, 1, 1, 0, 0, 0]) n (halterref02_Div.l3_S t1 t2 t82 t83 (IntKind.wrap .u64 ((2 : Int) * x85)) (IntKind.wrap .i64 (x86 - (1 : Int)))) (halterref02_Div.l3_Q t1 t2 t82 t83 r)))))) ∧ ((decide (x85 < (4503599627370496 : Int))) = false → (((True) ∧ (True) ∧ True) ∧ halterref02_Div.l3_Q t1 t2 t82 t83 r (.exit 0) ⟨[.any, .any, .any, .any, .any, .v (.one (.sc (.bool (!(t1 == t2))))), .v (.one (.ptr 0 ⟨0, 0, 0, 0⟩)), .v (.one (.ptr 1 ⟨0, 0, 0, 0⟩)), .any, .any, .any, .any, .any, .any, .any, .any, .any, .any, .any, .any, .any, .any, .any, .any, .any, .any, .any, .any, .any, .any, .any, .any, .any, .any, .any, .any, .any, .any, .any, .any, .any, .any, .any, .any, .any, .any, .any, .any, .any, .any, .any, .any, .any, .any, .any, .any, .any, .any, .any, .any, .any, .any, .any, .any, .any, .any, .any, .any, .any, .any, .any, .any, .any, .any, .any, .any, .any, .any, .any, .any, .any, .any, .any, .any, .any, .any, .any, .any, .any, .any, .any, .any, .any, .any, .any, .any, .any, .any, .any, .any, .any, .any, .any, .any, .any, .any, .any, .any, .any, .any, .any, .any, .any, .any, .any, .any, .any, .any, .any, .any, .any, .any, .any, .any], [.ex false [.c (.sc (.bool t82.1)), .c (.sc (.int .u64 x85)), .c (.sc (.int .i64 x86)), .c (.sc (.bool (z3 t82)))] 44, .ex false [.c (.sc (.bool t83.1)), .c (.sc (.int .u64 t83.2.1)), .c (.sc (.int .i64 (p2 t83))), .c (.sc (.bool (z3 t83)))] 44], 0⟩)))) (by kernel_rfl) ?_)
    refine ⟨trivial, ?_⟩
    refine ⟨trivial, ?_⟩
    refine ⟨fun b91 => ?_, fun b91 => ?_⟩
    · rw [if_pos (of_decide_eq_true b91)] at h
      refine ⟨trivial, ?_⟩
      refine ⟨trivial, ?_⟩
      refine ⟨trivial, ?_⟩
      refine ⟨trivial, ?_⟩
      refine ⟨trivial, ?_⟩
      refine ⟨trivial, ?_⟩
      refine ⟨trivial, ?_⟩
      refine ⟨trivial, ?_⟩
      refine ⟨trivial, ?_⟩
      exact ⟨⟨trivial, trivial, trivial⟩, ih (IntKind.wrap .u64 ((2 : Int) * x85)) (IntKind.wrap .i64 (x86 - (1 : Int))) r h⟩
    · rw [if_neg (of_decide_eq_false b91)] at h
      obtain rfl := Option.some.inj h
      exact ⟨⟨trivial, trivial, trivial⟩, rfl, rfl⟩
def halterref02_Div.l4 (t1 : Bool) (t2 : Bool) (t82 : Bool × Int × Int × Bool) (t83 : Bool × Int × Int × Bool) (t90 : Int × Int) : Nat → Int → Int → Option (Int × Int)
  | 0, _, _ => none
  | n + 1, x97, x98 =>
    if x97 < (4503599627370496 : Int) then
      halterref02_Div.l4 t1 t2 t82 t83 t90 n (IntKind.wrap .u64 ((2 : Int) * x97)) (IntKind.wrap .i64 (x98 - (1 : Int)))
    else
      some (x97, x98)
def halterref02_Div.l4_S (t1 : Bool) (t2 : Bool) (t82 : Bool × Int × Int × Bool) (t83 : Bool × Int × Int × Bool) (t90 : Int × Int) (x97 : Int) (x98 : Int) : St := ⟨[.any, .any, .any, .any, .any, .v (.one (.sc (.bool (!(t1 == t2))))), .v (.one (.ptr 0 ⟨0, 0, 0, 0⟩)), .v (.one (.ptr 1 ⟨0, 0, 0, 0⟩)), .any, .any, .any, .any, .any, .any, .any, .any, .any, .any, .any, .any, .any, .any, .any, .any, .any, .any, .any, .any, .any, .any, .any, .any, .any, .any, .any, .any, .any, .any, .any, .any, .any, .any, .any, .any, .any, .any, .any, .any, .any, .any, .any, .any, .any, .any, .any, .any, .any, .any, .any, .any, .any, .any, .any, .any, .any, .any, .any, .any, .any, .any, .any, .any, .any, .any, .any, .any, .any, .any, .any, .any, .any, .any, .any, .any, .any, .any, .any, .any, .any, .any, .any, .any, .any, .any, .any, .any, .any, .any, .any, .any, .any, .any, .any, .any, .any, .any, .any, .any, .any, .any, .any, .any, .any, .any, .any, .any, .any, .any, .any, .any, .any, .any, .any, .any], [.ex false [.c (.sc (.bool t82.1)), .c (.sc (.int .u64 t90.1)), .c (.sc (.int .i64 t90.2)), .c (.sc (.bool t82.2.2.2))] 44, .ex false [.c (.sc (.bool t83.1)), .c (.sc (.int .u64 x97)), .c (.sc (.int .i64 x98)), .c (.sc (.bool t83.2.2.2))] 44], 0⟩
def halterref02_Div.l4_Q (t1 : Bool) (t2 : Bool) (t82 : Bool × Int × Int × Bool) (t83 : Bool × Int × Int × Bool) (t90 : Int × Int) (t : Int × Int) : Exit → St → Prop := fun e s => e = (.exit 2) ∧ s = ⟨[.any, .any, .any, .any, .any, .v (.one (.sc (.bool (!(t1 == t2))))), .v (.one (.ptr 0 ⟨0, 0, 0, 0⟩)), .v (.one (.ptr 1 ⟨0, 0, 0, 0⟩)), .any, .any, .any, .any, .any, .any, .any, .any, .any, .any, .any, .any, .any, .any, .any, .any, .any, .any, .any, .any, .any, .any, .any, .any, .any, .any, .any, .any, .any, .any, .any, .any, .any, .any, .any, .any, .any, .any, .any, .any, .any, .any, .any, .any, .any, .any, .any, .any, .any, .any, .any, .any, .any, .any, .any, .any, .any, .any, .any, .any, .any, .any, .any, .any, .any, .any, .any, .any, .any, .any, .any, .any, .any, .any, .any, .any, .any, .any, .any, .any, .any, .any, .any, .any, .any, .any, .any, .any, .any, .any, .any, .any, .any, .any, .any, .any, .any, .any, .any, .any, .any, .any, .any, .any, .any, .any, .any, .any, .any, .any, .any, .any, .any, .any, .any, .any], [.ex false [.c (.sc (.bool t82.1)), .c (.sc (.int .u64 t90.1)), .c (.sc (.int .i64 t90.2)), .c (.sc (.bool t82.2.2.2))] 44, .ex false [.c (.sc (.bool t83.1)), .c (.sc (.int .u64 t.1)), .c (.sc (.int .i64 t.2)), .c (.sc (.bool t83.2.2.2))] 44], 0⟩
theorem halterref02_Div.l4_ok (t1 : Bool) (t2 : Bool) (t82 : Bool × Int × Int × Bool) (t83 : Bool × Int × Int × Bool) (t90 : Int × Int) : ∀ (n : Nat) (x97 : Int) (x98 : Int) (r : Int × Int), halterref02_Div.l4 t1 t2 t82 t83 t90 n x97 x98 = some r → TripN cfg (cpath (Try.f12.body.getD .skip) [1, 1, 1, 1, 1, 1, 1, 0, 0, 0]) n (halterref02_Div.l4_S t1 t2 t82 t83 t90 x97 x98) (halterref02_Div.l4_Q t1 t2 t82 t83 t90 r) := by
  intro n
  induction n with
  | zero => intro x97 x98 r h; cases h
  | succ n ih =>
    intro x97 x98 r h
    rw [halterref02_Div.l4] at h
    refine TripN.of_run cfg_ok (k := (.br (.adj [] (.adj [] (.adj [] (.adj [.keep [5, 6, 7], .drop 2] .nil)))) (.adj [.keep [5, 6, 7], .drop 2] .nil))) (to_goal (q := (True) ∧ (True) ∧ (((decide (x97 < (4503599627370496 : Int))) = true → (True ∧ (True ∧ (True ∧ (True) ∧ (True) ∧ (True) ∧ (True) ∧ (True) ∧ (True) ∧ (((True) ∧ (True) ∧ True) ∧ TripN cfg (cpath (Try.f12.body.getD .skip) [1, 1, 1, 1, 1, 1, 1, 0, 0, 0]) n (halterref02_Div.l4_S t1 t2 t82 t83 t90 (IntKind.wrap .u64 ((2 : Int) * x97)) (IntKind.wrap .i64 (x98 - (1 : Int)))) (halterref02_Div.l4_Q t1 t2 t82 t83 t90 r)))))) ∧ ((decide (x97 < (4503599627370496 : Int))) = false → (((True) ∧ (True) ∧ True) ∧ halterref02_Div.l4_Q t1 t2 t82 t83 t90 r (.exit 2) ⟨[.any, .any, .any, .any, .any, .v (.one (.sc (.bool (!(t1 == t2))))), .v (.one (.ptr 0 ⟨0, 0, 0, 0⟩)), .v (.one (.ptr 1 ⟨0, 0, 0, 0⟩)), .any, .any, .any, .any, .any, .any, .any, .any, .any, .any, .any, .any, .any, .any, .any, .any, .any, .any, .any, .any, .any, .any, .any, .any, .any, .any, .any, .any, .any, .any, .any, .any, .any, .any, .any, .any, .any, .any, .any, .any, .any, .any, .any, .any, .any, .any, .any, .any, .any, .any, .any, .any, .any, .any, .any, .any, .any, .any, .any, .any, .any, .any, .any, .any, .any, .any, .any, .any, .any, .any, .any, .any, .any, .any, .any, .any, .any, .any, .any, .any, .any, .any, .any, .any, .any, .any, .any, .any, .any, .any, .any, .any, .any, .any, .any, .any, .any, .any, .any, .any, .any, .any, .any, .any, .any, .any, .any, .any, .any, .any, .any, .any, .any, .any, .any, .any], [.ex false [.c (.sc (.bool t82.1)), .c (.sc (.int .u64 t90.1)), .c (.sc (.int .i64 t90.2)), .c (.sc (.bool (z3 t82)))] 44, .ex false [.c (.sc (.bool t83.1)), .c (.sc (.int .u64 x97)), .c (.sc (.int .i64 x98)), .c (.sc (.bool (z3 t83)))] 44], 0⟩)))) (by kernel_rfl) ?_)
    refine ⟨trivial, ?_⟩
    refine ⟨trivial, ?_⟩
    refine ⟨fun b103 => ?_, fun b103 => ?_⟩
    · rw [if_pos (of_decide_eq_true b103)] at h
      refine ⟨trivial, ?_⟩
      refine ⟨trivial, ?_⟩
      refine ⟨trivial, ?_⟩
      refine ⟨trivial, ?_⟩
      refine ⟨trivial, ?_⟩
      refine ⟨trivial, ?_⟩
      refine ⟨trivial, ?_⟩
      refine ⟨trivial, ?_⟩
      refine ⟨trivial, ?_⟩
      exact ⟨⟨trivial, trivial, trivial⟩, ih (IntKind.wrap .u64 ((2 : Int) * x97)) (IntKind.wrap .i64 (x98 - (1 : Int))) r h⟩
    · rw [if_neg (of_decide_eq_false b103)] at h
      obtain rfl := Option.some.inj h
      exact ⟨⟨trivial, trivial, trivial⟩, rfl, rfl⟩
def halterref02_Div.l5 (t1 : Bool) (t2 : Bool) (t82 : Bool × Int × Int × Bool) (t83 : Bool × Int × Int × Bool) (t90 : Int × Int) (t102 : Int × Int) : Nat → Int → Int → Int → Option (Int × Int)
  | 0, _, _, _ => none
  | n + 1, x110, x111, x112 =>
    if x112 < (60 : Int) then
      if t102.1 ≠ 0 then
        if t102.1 ≠ 0 then
          halterref02_Div.l5 t1 t2 t82 t83 t90 t102 n (IntKind.wrap .u64 ((IntKind.wrap .u64 ((2 : Int) * x110)) + (IntKind.wrap .u64 (Int.tdiv (IntKind.wrap .u64 ((2 : Int) * x111)) t102.1)))) (Int.tmod (IntKind.wrap .u64 ((2 : Int) * x111)) t102.1) (IntKind.wrap .i64 (x112 + (1 : Int)))
        else none
      else none
    else
      some (x110, x111)
def halterref02_Div.l5_S (t1 : Bool) (t2 : Bool) (t82 : Bool × Int × Int × Bool) (t83 : Bool × Int × Int × Bool) (t90 : Int × Int) (t102 : Int × Int) (x110 : Int) (x111 : Int) (x112 : Int) : St := ⟨[.any, .any, .any, .any, .any, .v (.one (.sc (.bool (!(t1 == t2))))), .v (.one (.ptr 0 ⟨0, 0, 0, 0⟩)), .v (.one (.ptr 1 ⟨0, 0, 0, 0⟩)), .v (.one (.sc (.int .u64 x110))), .v (.one (.sc (.int .u64 x111))), .v (.one (.sc (.int .i64 x112))), .any, .any, .any, .any, .any, .any, .any, .any, .any, .any, .any, .any, .any, .any, .any, .any, .any, .any, .any, .any, .any, .any, .any, .any, .any, .any, .any, .any, .any, .any, .any, .any, .any, .any, .any, .any, .any, .any, .any, .any, .any, .any, .any, .any, .any, .any, .any, .any, .any, .any, .any, .any, .any, .any, .any, .any, .any, .any, .any, .any, .any, .any, .any, .any, .any, .any, .any, .any, .any, .any, .any, .any, .any, .any, .any, .any, .any, .any, .any, .any, .any, .any, .any, .any, .any, .any, .any, .any, .any, .any, .any, .any, .any, .any, .any, .any, .any, .any, .any, .any, .any, .any, .any, .any, .any, .any, .any, .any, .any, .any, .any, .any, .any], [.ex false [.c (.sc (.bool t82.1)), .c (.sc (.int .u64 t90.1)), .c (.sc (.int .i64 t90.2)), .c (.sc (.bool t82.2.2.2))] 44, .ex false [.c (.sc (.bool t83.1)), .c (.sc (.int .u64 t102.1)), .c (.sc (.int .i64 t102.2)), .c (.sc (.bool t83.2.2.2))] 44], 0⟩
def halterref02_Div.l5_Q (t1 : Bool) (t2 : Bool) (t82 : Bool × Int × Int × Bool) (t83 : Bool × Int × Int × Bool) (t90 : Int × Int) (t102 : Int × Int) (t : Int × Int) : Exit → St → Prop := fun e s => e = (.exit 4) ∧ s = ⟨[.any, .any, .any, .any, .any, .v (.one (.sc (.bool (!(t1 == t2))))), .v (.one (.ptr 0 ⟨0, 0, 0, 0⟩)), .v (.one (.ptr 1 ⟨0, 0, 0, 0⟩)), .v (.one (.sc (.int .u64 t.1))), .v (.one (.sc (.int .u64 t.2))), .any, .any, .any, .any, .any, .any, .any, .any, .any, .any, .any, .any, .any, .any, .any, .any, .any, .any, .any, .any, .any, .any, .any, .any, .any, .any, .any, .any, .any, .any, .any, .any, .any, .any, .any, .any, .any, .any, .any, .any, .any, .any, .any, .any, .any, .any, .any, .any, .any, .any, .any, .any, .any, .any, .any, .any, .any, .any, .any, .any, .any, .any, .any, .any, .any, .any, .any, .any, .any, .any, .any, .any, .any, .any, .any, .any, .any, .any, .any, .any, .any, .any, .any, .any, .any, .any, .any, .any, .any, .any, .any, .any, .any, .any, .any, .any, .any, .any, .any, .any, .any, .any, .any, .any, .any, .any, .any, .any, .any, .any, .any, .any, .any, .any], [.ex false [.c (.sc (.bool t82.1)), .c (.sc (.int .u64 t90.1)), .c (.sc (.int .i64 t90.2)), .c (.sc (.bool t82.2.2.2))] 44, .ex false [.c (.sc (.bool t83.1)), .c (.sc (.int .u64 t102.1)), .c (.sc (.int .i64 t102.2)), .c (.sc (.bool t83.2.2.2))] 44], 0⟩
theorem halterref02_Div.l5_ok (t1 : Bool) (t2 : Bool) (t82 : Bool × Int × Int × Bool) (t83 : Bool × Int × Int × Bool) (t90 : Int × Int) (t102 : Int × Int) : ∀ (n : Nat) (x110 : Int) (x111 : Int) (x112 : Int) (r : Int × Int), halterref02_Div.l5 t1 t2 t82 t83 t90 t102 n x110 x111 x112 = some r → TripN cfg (cpath (Try.f12.body.getD .skip) [1, 1, 1, 1, 1, 1, 1, 1, 1, 0, 1, 0, 0]) n (halterref02_Div.l5_S t1 t2 t82 t83 t90 t102 x110 x111 x112) (halterref02_Div.l5_Q t1 t2 t82 t83 t90 t102 r) := by
  intro n
  induction n with
  | zero => intro x110 x111 x112 r h; cases h
  | succ n ih =>
    intro x110 x111 x112 r h
    rw [halterref02_Div.l5] at h
    refine TripN.of_run cfg_ok (k := (.br (.adj [] (.adj [] (.adj [] (.adj [] (.adj [] (.adj [] (.adj [.keep [5, 6, 7, 8, 9, 10], .drop 2] .nil))))))) (.adj [.keep [5, 6, 7, 8, 9], .drop 2] .nil))) (to_goal (q := (True) ∧ (((decide (x112 < (60 : Int))) = true → (True ∧ (True ∧ (True ∧ (True) ∧ (True ∧ (True) ∧ (True) ∧ (t102.1 ≠ 0) ∧ (True) ∧ (True ∧ (True) ∧ (t102.1 ≠ 0) ∧ (True ∧ (True) ∧ (((True) ∧ (True) ∧ True) ∧ TripN cfg (cpath (Try.f12.body.getD .skip) [1, 1, 1, 1, 1, 1, 1, 1, 1, 0, 1, 0, 0]) n (halterref02_Div.l5_S t1 t2 t82 t83 t90 t102 (IntKind.wrap .u64 ((IntKind.wrap .u64 ((2 : Int) * x110)) + (IntKind.wrap .u64 (Int.tdiv (IntKind.wrap .u64 ((2 : Int) * x111)) t102.1)))) (Int.tmod (IntKind.wrap .u64 ((2 : Int) * x111)) t102.1) (IntKind.wrap .i64 (x112 + (1 : Int)))) (halterref02_Div.l5_Q t1 t2 t82 t83 t90 t102 r))))))))) ∧ ((decide (x112 < (60 : Int))) = false → (((True) ∧ (True) ∧ True) ∧ halterref02_Div.l5_Q t1 t2 t82 t83 t90 t102 r (.exit 4) ⟨[.any, .any, .any, .any, .any, .v (.one (.sc (.bool (!(t1 == t2))))), .v (.one (.ptr 0 ⟨0, 0, 0, 0⟩)), .v (.one (.ptr 1 ⟨0, 0, 0, 0⟩)), .v (.one (.sc (.int .u64 x110))), .v (.one (.sc (.int .u64 x111))), .any, .any, .any, .any, .any, .any, .any, .any, .any, .any, .any, .any, .any, .any, .any, .any, .any, .any, .any, .any, .any, .any, .any, .any, .any, .any, .any, .any, .any, .any, .any, .any, .any, .any, .any, .any, .any, .any, .any, .any, .any, .any, .any, .any, .any, .any, .any, .any, .any, .any, .any, .any, .any, .any, .any, .any, .any, .any, .any, .any, .any, .any, .any, .any, .any, .any, .any, .any, .any, .any, .any, .any, .any, .any, .any, .any, .any, .any, .any, .any, .any, .any, .any, .any, .any, .any, .any, .any, .any, .any, .any, .any, .any, .any, .any, .any, .any, .any, .any, .any, .any, .any, .any, .any, .any, .any, .any, .any, .any, .any, .any, .any, .any, .any], [.ex false [.c (.sc (.bool t82.1)), .c (.sc (.int .u64 t90.1)), .c (.sc (.int .i64 t90.2)), .c (.sc (.bool (z3 t82)))] 44, .ex false [.c (.sc (.bool t83.1)), .c (.sc (.int .u64 t102.1)), .c (.sc (.int .i64 t102.2)), .c (.sc (.bool (z3 t83)))] 44], 0⟩)))) (by kernel_rfl) ?_)
    refine ⟨trivial, ?_⟩
    refine ⟨fun b119 => ?_, fun b119 => ?_⟩
    · rw [if_pos (of_decide_eq_true b119)] at h
      refine ⟨trivial, ?_⟩
      refine ⟨trivial, ?_⟩
      refine ⟨trivial, ?_⟩
      refine ⟨trivial, ?_⟩
      refine ⟨trivial, ?_⟩
      refine ⟨trivial, ?_⟩
      refine ⟨trivial, ?_⟩
      obtain ⟨g121, h⟩ := of_guard h
      refine ⟨g121, ?_⟩
      refine ⟨trivial, ?_⟩
      refine ⟨trivial, ?_⟩
      refine ⟨trivial, ?_⟩
      obtain ⟨g120, h⟩ := of_guard h
      refine ⟨g120, ?_⟩
      refine ⟨trivial, ?_⟩
      refine ⟨trivial, ?_⟩
      exact ⟨⟨trivial, trivial, trivial⟩, ih (IntKind.wrap .u64 ((IntKind.wrap .u64 ((2 : Int) * x110)) + (IntKind.wrap .u64 (Int.tdiv (IntKind.wrap .u64 ((2 : Int) * x111)) t102.1)))) (Int.tmod (IntKind.wrap .u64 ((2 : Int) * x111)) t102.1) (IntKind.wrap .i64 (x112 + (1 : Int))) r h⟩
    · rw [if_neg (of_decide_eq_false b119)] at h
      obtain rfl := Option.some.inj h
      exact ⟨⟨trivial, trivial, trivial⟩, rfl, rfl⟩
def halterref02_Div.l6 (t1 : Bool) (t2 : Bool) (t143 : Bool × Int × Int × Bool) (t144 : Bool × Int × Int × Bool) : Nat → Int → Int → Option (Int × Int)
  | 0, _, _ => none
  | n + 1, x146, x147 =>
    if x146 < (4503599627370496 : Int) then
      halterref02_Div.l6 t1 t2 t143 t144 n (IntKind.wrap .u64 ((2 : Int) * x146)) (IntKind.wrap .i64 (x147 - (1 : Int)))
    else
      some (x146, x147)
def halterref02_Div.l6_S (t1 : Bool) (t2 : Bool) (t143 : Bool × Int × Int × Bool) (t144 : Bool × Int × Int × Bool) (x146 : Int) (x147 : Int) : St := ⟨[.any, .any, .any, .any, .any, .v (.one (.sc (.bool (!(t1 == t2))))), .v (.one (.ptr 0 ⟨0, 0, 0, 0⟩)), .v (.one (.ptr 1 ⟨0, 0, 0, 0⟩)), .any, .any, .any, .any, .any, .any, .any, .any, .any, .any, .any, .any, .any, .any, .any, .any, .any, .any, .any, .any, .any, .any, .any, .any, .any, .any, .any, .any, .any, .any, .any, .any, .any, .any, .any, .any, .any, .any, .any, .any, .any, .any, .any, .any, .any, .any, .any, .any, .any, .any, .any, .any, .any, .any, .any, .any, .any, .any, .any, .any, .any, .any, .any, .any, .any, .any, .any, .any, .any, .any, .any, .any, .any, .any, .any, .any, .any, .any, .any, .any, .any, .any, .any, .any, .any, .any, .any, .any, .any, .any, .any, .any, .any, .any, .any, .any, .any, .any, .any, .any, .any, .any, .any, .any, .any, .any, .any, .any, .any, .any, .any, .any, .any, .any, .any, .any], [.ex false [.c (.sc (.bool t143.1)), .c (.sc (.int .u64 x146)), .c (.sc (.int .i64 x147)), .c (.sc (.bool t143.2.2.2))] 44, .ex false [.c (.sc (.bool t144.1)), .c (.sc (.int .u64 t144.2.1)), .c (.sc (.int .i64 t144.2.2.1)), .c (.sc (.bool t144.2.2.2))] 44], 0⟩
def halterref02_Div.l6_Q (t1 : Bool) (t2 : Bool) (t143 : Bool × Int × Int × Bool) (t144 : Bool × Int × Int × Bool) (t : Int × Int) : Exit → St → Prop := fun e s => e = (.exit 0) ∧ s = ⟨[.any, .any, .any, .any, .any, .v (.one (.sc (.bool (!(t1 == t2))))), .v (.one (.ptr 0 ⟨0, 0, 0, 0⟩)), .v (.one (.ptr 1 ⟨0, 0, 0, 0⟩)), .any, .any, .any, .any, .any, .any, .any, .any, .any, .any, .any, .any, .any, .any, .any, .any, .any, .any, .any, .any, .any, .any, .any, .any, .any, .any, .any, .any, .any, .any, .any, .any, .any, .any, .any, .any, .any, .any, .any, .any, .any, .any, .any, .any, .any, .any, .any, .any, .any, .any, .any, .any, .any, .any, .any, .any, .any, .any, .any, .any, .any, .any, .any, .any, .any, .any, .any, .any, .any, .any, .any, .any, .any, .any, .any, .any, .any, .any, .any, .any, .any, .any, .any, .any, .any, .any, .any, .any, .any, .any, .any, .any, .any, .any, .any, .any, .any, .any, .any, .any, .any, .any, .any, .any, .any, .any, .any, .any, .any, .any, .any, .any, .any, .any, .any, .any], [.ex false [.c (.sc (.bool t143.1)), .c (.sc (.int .u64 t.1)), .c (.sc (.int .i64 t.2)), .c (.sc (.bool t143.2.2.2))] 44, .ex false [.c (.sc (.bool t144.1)), .c (.sc (.int .u64 t144.2.1)), .c (.sc (.int .i64 t144.2.2.1)), .c (.sc (.bool t144.2.2.2))] 44], 0⟩
theorem halterref02_Div.l6_ok (t1 : Bool) (t2 : Bool) (t143 : Bool × Int × Int × Bool) (t144 : Bool × Int × Int × Bool) : ∀ (n : Nat) (x146 : Int) (x147 : Int) (r : Int × Int), halterref02_Div.l6 t1 t2 t143 t144 n x146 x147 = some r → TripN cfg (cpath (Try.f12.body.getD .skip) [1, 1, 1, 1, 1, 1, 0, 0, 0]) n (halterref02_Div.l6_S t1 t2 t143 t144 x146 x147) (halterref02_Div.l6_Q t1 t2 t143 t144 r) := by
  intro n
  induction n with
  | zero => intro x146 x147 r h; cases h
  | succ n ih =>
    intro x146 x147 r h
    rw [halterref02_Div.l6] at h
    refine TripN.of_run cfg_ok (k := (.br (.adj [] (.adj [] (.adj [] (.adj [.keep [5, 6, 7], .drop 2] .nil)))) (.adj [.keep [5, 6, 7], .drop 2] .nil))) (to_goal (q := (True) ∧ (True) ∧ (((decide (x146 < (4503599627370496 : Int))) = true → (True ∧ (True ∧ (True ∧ (True) ∧ (True) ∧ (True) ∧ (True) ∧ (True) ∧ (True) ∧ (((True) ∧ (True) ∧ True) ∧ TripN cfg (cpath (Try.f12.body.getD .skip) [1, 1, 1, 1, 1, 1, 0, 0, 0]) n (halterref02_Div.l6_S t1 t2 t143 t144 (IntKind.wrap .u64 ((2 : Int) * x146)) (IntKind.wrap .i64 (x147 - (1 : Int)))) (halterref02_Div.l6_Q t1 t2 t143 t144 r)))))) ∧ ((decide (x146 < (4503599627370496 : Int))) = false → (((True) ∧ (True) ∧ True) ∧ halterref02_Div.l6_Q t1 t2 t143 t144 r (.exit 0) ⟨[.any, .any, .any, .any, .any, .v (.one (.sc (.bool (!(t1 == t2))))), .v (.one (.ptr 0 ⟨0, 0, 0, 0⟩)), .v (.one (.ptr 1 ⟨0, 0, 0, 0⟩)), .any, .any, .any, .any, .any, .any, .any, .any, .any, .any, .any, .any, .any, .any, .any, .any, .any, .any, .any, .any, .any, .any, .any, .any, .any, .any, .any, .any, .any, .any, .any, .any, .any, .any, .any, .any, .any, .any, .any, .any, .any, .any, .any, .any, .any, .any, .any, .any, .any, .any, .any, .any, .any, .any, .any, .any, .any, .any, .any, .any, .any, .any, .any, .any, .any, .any, .any, .any, .any, .any, .any, .any, .any, .any, .any, .any, .any, .any, .any, .any, .any, .any, .any, .any, .any, .any, .any, .any, .any, .any, .any, .any, .any, .any, .any, .any, .any, .any, .any, .any, .any, .any, .any, .any, .any, .any, .any, .any, .any, .any, .any, .any, .any, .any, .any, .any], [.ex false [.c (.sc (.bool t143.1)), .c (.sc (.int .u64 x146)), .c (.sc (.int .i64 x147)), .c (.sc (.bool (z3 t143)))] 44, .ex false [.c (.sc (.bool t144.1)), .c (.sc (.int .u64 t144.2.1)), .c (.sc (.int .i64 (p2 t144))), .c (.sc (.bool (z3 t144)))] 44], 0⟩)))) (by kernel_rfl) ?_)
    refine ⟨trivial, ?_⟩
    refine ⟨trivial, ?_⟩
    refine ⟨fun b152 => ?_, fun b152 => ?_⟩
    · rw [if_pos (of_decide_eq_true b152)] at h
      refine ⟨trivial, ?_⟩
      refine ⟨trivial, ?_⟩
      refine ⟨trivial, ?_⟩
      refine ⟨trivial, ?_⟩
      refine ⟨trivial, ?_⟩
      refine ⟨trivial, ?_⟩
      refine ⟨trivial, ?_⟩
      refine ⟨trivial, ?_⟩
      refine ⟨trivial, ?_⟩
      exact ⟨⟨trivial, trivial, trivial⟩, ih (IntKind.wrap .u64 ((2 : Int) * x146)) (IntKind.wrap .i64 (x147 - (1 : Int))) r h⟩
    · rw [if_neg (of_decide_eq_false b152)] at h
      obtain rfl := Option.some.inj h
      exact ⟨⟨trivial, trivial, trivial⟩, rfl, rfl⟩
def halterref02_Div.l7 (t1 : Bool) (t2 : Bool) (t143 : Bool × Int × Int × Bool) (t144 : Bool × Int × Int × Bool) (t151 : Int × Int) : Nat → Int → Int → Option (Int × Int)
  | 0, _, _ => none
  | n + 1, x158, x159 =>
    if x158 < (4503599627370496 : Int) then
      halterref02_Div.l7 t1 t2 t143 t144 t151 n (IntKind.wrap .u64 ((2 : Int) * x158)) (IntKind.wrap .i64 (x159 - (1 : Int)))
    else
      some (x158, x159)
def halterref02_Div.l7_S (t1 : Bool) (t2 : Bool) (t143 : Bool × Int × Int × Bool) (t144 : Bool × Int × Int × Bool) (t151 : Int × Int) (x158 : Int) (x159 : Int) : St := ⟨[.any, .any, .any, .any, .any, .v (.one (.sc (.bool (!(t1 == t2))))), .v (.one (.ptr 0 ⟨0, 0, 0, 0⟩)), .v (.one (.ptr 1 ⟨0, 0, 0, 0⟩)), .any, .any, .any, .any, .any, .any, .any, .any, .any, .any, .any, .any, .any, .any, .any, .any, .any, .any, .any, .any, .any, .any, .any, .any, .any, .any, .any, .any, .any, .any, .any, .any, .any, .any, .any, .any, .any, .any, .any, .any, .any, .any, .any, .any, .any, .any, .any, .any, .any, .any, .any, .any, .any, .any, .any, .any, .any, .any, .any, .any, .any, .any, .any, .any, .any, .any, .any, .any, .any, .any, .any, .any, .any, .any, .any, .any, .any, .any, .any, .any, .any, .any, .any, .any, .any, .any, .any, .any, .any, .any, .any, .any, .any, .any, .any, .any, .any, .any, .any, .any, .any, .any, .any, .any, .any, .any, .any, .any, .any, .any, .any, .any, .any, .any, .any, .any], [.ex false [.c (.sc (.bool t143.1)), .c (.sc (.int .u64 t151.1)), .c (.sc (.int .i64 t151.2)), .c (.sc (.bool t143.2.2.2))] 44, .ex false [.c (.sc (.bool t144.1)), .c (.sc (.int .u64 x158)), .c (.sc (.int .i64 x159)), .c (.sc (.bool t144.2.2.2))] 44], 0⟩
def halterref02_Div.l7_Q (t1 : Bool) (t2 : Bool) (t143 : Bool × Int × Int × Bool) (t144 : Bool × Int × Int × Bool) (t151 : Int × Int) (t : Int × Int) : Exit → St → Prop := fun e s => e = (.exit 2) ∧ s = ⟨[.any, .any, .any, .any, .any, .v (.one (.sc (.bool (!(t1 == t2))))), .v (.one (.ptr 0 ⟨0, 0, 0, 0⟩)), .v (.one (.ptr 1 ⟨0, 0, 0, 0⟩)), .any, .any, .any, .any, .any, .any, .any, .any, .any, .any, .any, .any, .any, .any, .any, .any, .any, .any, .any, .any, .any, .any, .any, .any, .any, .any, .any, .any, .any, .any, .any, .any, .any, .any, .any, .any, .any, .any, .any, .any, .any, .any, .any, .any, .any, .any, .any, .any, .any, .any, .any, .any, .any, .any, .any, .any, .any, .any, .any, .any, .any, .any, .any, .any, .any, .any, .any, .any, .any, .any, .any, .any, .any, .any, .any, .any, .any, .any, .any, .any, .any, .any, .any, .any, .any, .any, .any, .any, .any, .any, .any, .any, .any, .any, .any, .any, .any, .any, .any, .any, .any, .any, .any, .any, .any, .any, .any, .any, .any, .any, .any, .any, .any, .any, .any, .any], [.ex false [.c (.sc (.bool t143.1)), .c (.sc (.int .u64 t151.1)), .c (.sc (.int .i64 t151.2)), .c (.sc (.bool t143.2.2.2))] 44, .ex false [.c (.sc (.bool t144.1)), .c (.sc (.int .u64 t.1)), .c (.sc (.int .i64 t.2)), .c (.sc (.bool t144.2.2.2))] 44], 0⟩
theorem halterref02_Div.l7_ok (t1 : Bool) (t2 : Bool) (t143 : Bool × Int × Int × Bool) (t144 : Bool × Int × Int × Bool) (t151 : Int × Int) : ∀ (n : Nat) (x158 : Int) (x159 : Int) (r : Int × Int), halterref02_Div.l7 t1 t2 t143 t144 t151 n x158 x159 = some r → TripN cfg (cpath (Try.f12.body.getD .skip) [1, 1, 1, 1, 1, 1, 1, 0, 0, 0]) n (halterref02_Div.l7_S t1 t2 t143 t144 t151 x158 x159) (halterref02_Div.l7_Q t1 t2 t143 t144 t151 r) := by
  intro n
  induction n with
  | zero => intro x158 x159 r h; cases h
  | succ n ih =>
    intro x158 x159 r h
    rw [halterref02_Div.l7] at h
    refine TripN.of_run cfg_ok (k := (.br (.adj [] (.adj [] (.adj [] (.adj [.keep [5, 6, 7], .drop 2] .nil)))) (.adj [.keep [5, 6, 7], .drop 2] .nil))) (to_goal (q := (True) ∧ (True) ∧ (((decide (x158 < (4503599627370496 : Int))) = true → (True ∧ (True ∧ (True ∧ (True) ∧ (True) ∧ (True) ∧ (True) ∧ (True) ∧ (True) ∧ (((True) ∧ (True) ∧ True) ∧ TripN cfg (cpath (Try.f12.body.getD .skip) [1, 1, 1, 1, 1, 1, 1, 0, 0, 0]) n (halterref02_Div.l7_S t1 t2 t143 t144 t151 (IntKind.wrap .u64 ((2 : Int) * x158)) (IntKind.wrap .i64 (x159 - (1 : Int)))) (halterref02_Div.l7_Q t1 t2 t143 t144 t151 r)))))) ∧ ((decide (x158 < (4503599627370496 : Int))) = false → (((True) ∧ (True) ∧ True) ∧ halterref02_Div.l7_Q t1 t2 t143 t144 t151 r (.exit 2) ⟨[.any, .any, .any, .any, .any, .v (.one (.sc (.bool (!(t1 == t2))))), .v (.one (.ptr 0 ⟨0, 0, 0, 0⟩)), .v (.one (.ptr 1 ⟨0, 0, 0, 0⟩)), .any, .any, .any, .any, .any, .any, .any, .any, .any, .any, .any, .any, .any, .any, .any, .any, .any, .any, .any, .any, .any, .any, .any, .any, .any, .any, .any, .any, .any, .any, .any, .any, .any, .any, .any, .any, .any, .any, .any, .any, .any, .any, .any, .any, .any, .any, .any, .any, .any, .any, .any, .any, .any, .any, .any, .any, .any, .any, .any, .any, .any, .any, .any, .any, .any, .any, .any, .any, .any, .any, .any, .any, .any, .any, .any, .any, .any, .any, .any, .any, .any, .any, .any, .any, .any, .any, .any, .any, .any, .any, .any, .any, .any, .any, .any, .any, .any, .any, .any, .any, .any, .any, .any, .any, .any, .any, .any, .any, .any, .any, .any, .any, .any, .any, .any, .any], [.ex false [.c (.sc (.bool t143.1)), .c (.sc (.int .u64 t151.1)), .c (.sc (.int .i64 t151.2)), .c (.sc (.bool (z3 t143)))] 44, .ex false [.c (.sc (.bool t144.1)), .c (.sc (.int .u64 x158)), .c (.sc (.int .i64 x159)), .c (.sc (.bool (z3 t144)))] 44], 0⟩)))) (by kernel_rfl) ?_)
    refine ⟨trivial, ?_⟩
    refine ⟨trivial, ?_⟩
    refine ⟨fun b164 => ?_, fun b164 => ?_⟩
    · rw [if_pos (of_decide_eq_true b164)] at h
      refine ⟨trivial, ?_⟩
      refine ⟨trivial, ?_⟩
      refine ⟨trivial, ?_⟩
      refine ⟨trivial, ?_⟩
      refine ⟨trivial, ?_⟩
      refine ⟨trivial, ?_⟩
      refine ⟨trivial, ?_⟩
      refine ⟨trivial, ?_⟩
      refine ⟨trivial, ?_⟩
      exact ⟨⟨trivial, trivial, trivial⟩, ih (IntKind.wrap .u64 ((2 : Int) * x158)) (IntKind.wrap .i64 (x159 - (1 : Int))) r h⟩
    · rw [if_neg (of_decide_eq_false b164)] at h
      obtain rfl := Option.some.inj h
      exact ⟨⟨trivial, trivial, trivial⟩, rfl, rfl⟩
def halterref02_Div.l8 (t1 : Bool) (t2 : Bool) (t143 : Bool × Int × Int × Bool) (t144 : Bool × Int × Int × Bool) (t151 : Int × Int) (t163 : Int × Int) : Nat → Int → Int → Int → Option (Int × Int)
  | 0, _, _, _ => none
  | n + 1, x171, x172, x173 =>
    if x173 < (60 : Int) then
      if t163.1 ≠ 0 then
        if t163.1 ≠ 0 then
          halterref02_Div.l8 t1 t2 t143 t144 t151 t163 n (IntKind.wrap .u64 ((IntKind.wrap .u64 ((2 : Int) * x171)) + (IntKind.wrap .u64 (Int.tdiv (IntKind.wrap .u64 ((2 : Int) * x172)) t163.1)))) (Int.tmod (IntKind.wrap .u64 ((2 : Int) * x172)) t163.1) (IntKind.wrap .i64 (x173 + (1 : Int)))
        else none
      else none
    else
      some (x171, x172)
def halterref02_Div.l8_S (t1 : Bool) (t2 : Bool) (t143 : Bool × Int × Int × Bool) (t144 : Bool × Int × Int × Bool) (t151 : Int × Int) (t163 : Int × Int) (x171 : Int) (x172 : Int) (x173 : Int) : St := ⟨[.any, .any, .any, .any, .any, .v (.one (.sc (.bool (!(t1 == t2))))), .v (.one (.ptr 0 ⟨0, 0, 0, 0⟩)), .v (.one (.ptr 1 ⟨0, 0, 0, 0⟩)), .v (.one (.sc (.int .u64 x171))), .v (.one (.sc (.int .u64 x172))), .v (.one (.sc (.int .i64 x173))), .any, .any, .any, .any, .any, .any, .any, .any, .any, .any, .any, .any, .any, .any, .any, .any, .any, .any, .any, .any, .any, .any, .any, .any, .any, .any, .any, .any, .any, .any, .any, .any, .any, .any, .any, .any, .any, .any, .any, .any, .any, .any, .any, .any, .any, .any, .any, .any, .any, .any, .any, .any, .any, .any, .any, .any, .any, .any, .any, .any, .any, .any, .any, .any, .any, .any, .any, .any, .any, .any, .any, .any, .any, .any, .any, .any, .any, .any, .any, .any, .any, .any, .any, .any, .any, .any, .any, .any, .any, .any, .any, .any, .any, .any, .any, .any, .any, .any, .any, .any, .any, .any, .any, .any, .any, .any, .any, .any, .any, .any, .any, .any, .any], [.ex false [.c (.sc (.bool t143.1)), .c (.sc (.int .u64 t151.1)), .c (.sc (.int .i64 t151.2)), .c (.sc (.bool t143.2.2.2))] 44, .ex false [.c (.sc (.bool t144.1)), .c (.sc (.int .u64 t163.1)), .c (.sc (.int .i64 t163.2)), .c (.sc (.bool t144.2.2.2))] 44], 0⟩
def halterref02_Div.l8_Q (t1 : Bool) (t2 : Bool) (t143 : Bool × Int × Int × Bool) (t144 : Bool × Int × Int × Bool) (t151 : Int × Int) (t163 : Int × Int) (t : Int × Int) : Exit → St → Prop := fun e s => e = (.exit 4) ∧ s = ⟨[.any, .any, .any, .any, .any, .v (.one (.sc (.bool (!(t1 == t2))))), .v (.one (.ptr 0 ⟨0, 0, 0, 0⟩)), .v (.one (.ptr 1 ⟨0, 0, 0, 0⟩)), .v (.one (.sc (.int .u64 t.1))), .v (.one (.sc (.int .u64 t.2))), .any, .any, .any, .any, .any, .any, .any, .any, .any, .any, .any, .any, .any, .any, .any, .any, .any, .any, .any, .any, .any, .any, .any, .any, .any, .any, .any, .any, .any, .any, .any, .any, .any, .any, .any, .any, .any, .any, .any, .any, .any, .any, .any, .any, .any, .any, .any, .any, .any, .any, .any, .any, .any, .any, .any, .any, .any, .any, .any, .any, .any, .any, .any, .any, .any, .any, .any, .any, .any, .any, .any, .any, .any, .any, .any, .any, .any, .any, .any, .any, .any, .any, .any, .any, .any, .any, .any, .any, .any, .any, .any, .any, .any, .any, .any, .any, .any, .any, .any, .any, .any, .any, .any, .any, .any, .any, .any, .any, .any, .any, .any, .any, .any, .any], [.ex false [.c (.sc (.bool t143.1)), .c (.sc (.int .u64 t151.1)), .c (.sc (.int .i64 t151.2)), .c (.sc (.bool t143.2.2.2))] 44, .ex false [.c (.sc (.bool t144.1)), .c (.sc (.int .u64 t163.1)), .c (.sc (.int .i64 t163.2)), .c (.sc (.bool t144.2.2.2))] 44], 0⟩
theorem halterref02_Div.l8_ok (t1 : Bool) (t2 : Bool) (t143 : Bool × Int × Int × Bool) (t144 : Bool × Int × Int × Bool) (t151 : Int × Int) (t163 : Int × Int) : ∀ (n : Nat) (x171 : Int) (x172 : Int) (x173 : Int) (r : Int × Int), halterref02_Div.l8 t1 t2 t143 t144 t151 t163 n x171 x172 x173 = some r → TripN cfg (cpath (Try.f12.body.getD .skip) [1, 1, 1, 1, 1, 1, 1, 1, 1, 0, 1, 0, 0]) n (halterref02_Div.l8_S t1 t2 t143 t144 t151 t163 x171 x172 x173) (halterref02_Div.l8_Q t1 t2 t143 t144 t151 t163 r) := by
  intro n
  induction n with
  | zero => intro x171 x172 x173 r h; cases h
  | succ n ih =>
    intro x171 x172 x173 r h
    rw [halterref02_Div.l8] at h
    refine TripN.of_run cfg_ok (k := (.br (.adj [] (.adj [] (.adj [] (.adj [] (.adj [] (.adj [] (.adj [.keep [5, 6, 7, 8, 9, 10], .drop 2] .nil))))))) (.adj [.keep [5, 6, 7, 8, 9], .drop 2] .nil))) (to_goal (q := (True) ∧ (((decide (x173 < (60 : Int))) = true → (True ∧ (True ∧ (True ∧ (True) ∧ (True ∧ (True) ∧ (True) ∧ (t163.1 ≠ 0) ∧ (True) ∧ (True ∧ (True) ∧ (t163.1 ≠ 0) ∧ (True ∧ (True) ∧ (((True) ∧ (True) ∧ True) ∧ TripN cfg (cpath (Try.f12.body.getD .skip) [1, 1, 1, 1, 1, 1, 1, 1, 1, 0, 1, 0, 0]) n (halterref02_Div.l8_S t1 t2 t143 t144 t151 t163 (IntKind.wrap .u64 ((IntKind.wrap .u64 ((2 : Int) * x171)) + (IntKind.wrap .u64 (Int.tdiv (IntKind.wrap .u64 ((2 : Int) * x172)) t163.1)))) (Int.tmod (IntKind.wrap .u64 ((2 : Int) * x172)) t163.1) (IntKind.wrap .i64 (x173 + (1 : Int)))) (halterref02_Div.l8_Q t1 t2 t143 t144 t151 t163 r))))))))) ∧ ((decide (x173 < (60 : Int))) = false → (((True) ∧ (True) ∧ True) ∧ halterref02_Div.l8_Q t1 t2 t143 t144 t151 t163 r (.exit 4) ⟨[.any, .any, .any, .any, .any, .v (.one (.sc (.bool (!(t1 == t2))))), .v (.one (.ptr 0 ⟨0, 0, 0, 0⟩)), .v (.one (.ptr 1 ⟨0, 0, 0, 0⟩)), .v (.one (.sc (.int .u64 x171))), .v (.one (.sc (.int .u64 x172))), .any, .any, .any, .any, .any, .any, .any, .any, .any, .any, .any, .any, .any, .any, .any, .any, .any, .any, .any, .any, .any, .any, .any, .any, .any, .any, .any, .any, .any, .any, .any, .any, .any, .any, .any, .any, .any, .any, .any, .any, .any, .any, .any, .any, .any, .any, .any, .any, .any, .any, .any, .any, .any, .any, .any, .any, .any, .any, .any, .any, .any, .any, .any, .any, .any, .any, .any, .any, .any, .any, .any, .any, .any, .any, .any, .any, .any, .any, .any, .any, .any, .any, .any, .any, .any, .any, .any, .any, .any, .any, .any, .any, .any, .any, .any, .any, .any, .any, .any, .any, .any, .any, .any, .any, .any, .any, .any, .any, .any, .any, .any, .any, .any, .any], [.ex false [.c (.sc (.bool t143.1)), .c (.sc (.int .u64 t151.1)), .c (.sc (.int .i64 t151.2)), .c (.sc (.bool (z3 t143)))] 44, .ex false [.c (.sc (.bool t144.1)), .c (.sc (.int .u64 t163.1)), .c (.sc (.int .i64 t163.2)), .c (.sc (.bool (z3 t144)))] 44], 0⟩)))) (by kernel_rfl) ?_)
    refine ⟨trivial, ?_⟩
    refine ⟨fun b180 => ?_, fun b180 => ?_⟩
    · rw [if_pos (of_decide_eq_true b180)] at h
      refine ⟨trivial, ?_⟩
      refine ⟨trivial, ?_⟩
      refine ⟨trivial, ?_⟩
      refine ⟨trivial, ?_⟩
      refine ⟨trivial, ?_⟩
      refine ⟨trivial, ?_⟩
      refine ⟨trivial, ?_⟩
      obtain ⟨g182, h⟩ := of_guard h
      refine ⟨g182, ?_⟩
      refine ⟨trivial, ?_⟩
      refine ⟨trivial, ?_⟩
      refine ⟨trivial, ?_⟩
      obtain ⟨g181, h⟩ := of_guard h
      refine ⟨g181, ?_⟩
      refine ⟨trivial, ?_⟩
      refine ⟨trivial, ?_⟩
      exact ⟨⟨trivial, trivial, trivial⟩, ih (IntKind.wrap .u64 ((IntKind.wrap .u64 ((2 : Int) * x171)) + (IntKind.wrap .u64 (Int.tdiv (IntKind.wrap .u64 ((2 : Int) * x172)) t163.1)))) (Int.tmod (IntKind.wrap .u64 ((2 : Int) * x172)) t163.1) (IntKind.wrap .i64 (x173 + (1 : Int))) r h⟩
    · rw [if_neg (of_decide_eq_false b180)] at h
      obtain rfl := Option.some.inj h
      exact ⟨⟨trivial, trivial, trivial⟩, rfl, rfl⟩
def halterref02_Div.l9 (t1 : Bool) (t2 : Bool) (t200 : Bool × Int × Int × Bool) (t201 : Bool × Int × Int × Bool) : Nat → Int → Int → Option (Int × Int)
  | 0, _, _ => none
  | n + 1, x203, x204 =>
    if x203 < (4503599627370496 : Int) then
      halterref02_Div.l9 t1 t2 t200 t201 n (IntKind.wrap .u64 ((2 : Int) * x203)) (IntKind.wrap .i64 (x204 - (1 : Int)))
    else
      some (x203, x204)
def halterref02_Div.l9_S (t1 : Bool) (t2 : Bool) (t200 : Bool × Int × Int × Bool) (t201 : Bool × Int × Int × Bool) (x203 : Int) (x204 : Int) : St := ⟨[.any, .any, .any, .any, .any, .v (.one (.sc (.bool (!(t1 == t2))))), .v (.one (.ptr 0 ⟨0, 0, 0, 0⟩)), .v (.one (.ptr 1 ⟨0, 0, 0, 0⟩)), .any, .any, .any, .any, .any, .any, .any, .any, .any, .any, .any, .any, .any, .any, .any, .any, .any, .any, .any, .any, .any, .any, .any, .any, .any, .any, .any, .any, .any, .any, .any, .any, .any, .any, .any, .any, .any, .any, .any, .any, .any, .any, .any, .any, .any, .any, .any, .any, .any, .any, .any, .any, .any, .any, .any, .any, .any, .any, .any, .any, .any, .any, .any, .any, .any, .any, .any, .any, .any, .any, .any, .any, .any, .any, .any, .any, .any, .any, .any, .any, .any, .any, .any, .any, .any, .any, .any, .any, .any, .any, .any, .any, .any, .any, .any, .any, .any, .any, .any, .any, .any, .any, .any, .any, .any, .any, .any, .any, .any, .any, .any, .any, .any, .any, .any, .any], [.ex false [.c (.sc (.bool t200.1)), .c (.sc (.int .u64 x203)), .c (.sc (.int .i64 x204)), .c (.sc (.bool t200.2.2.2))] 44, .ex false [.c (.sc (.bool t201.1)), .c (.sc (.int .u64 t201.2.1)), .c (.sc (.int .i64 t201.2.2.1)), .c (.sc (.bool t201.2.2.2))] 44], 0⟩
def halterref02_Div.l9_Q (t1 : Bool) (t2 : Bool) (t200 : Bool × Int × Int × Bool) (t201 : Bool × Int × Int × Bool) (t : Int × Int) : Exit → St → Prop := fun e s => e = (.exit 0) ∧ s = ⟨[.any, .any, .any, .any, .any, .v (.one (.sc (.bool (!(t1 == t2))))), .v (.one (.ptr 0 ⟨0, 0, 0, 0⟩)), .v (.one (.ptr 1 ⟨0, 0, 0, 0⟩)), .any, .any, .any, .any, .any, .any, .any, .any, .any, .any, .any, .any, .any, .any, .any, .any, .any, .any, .any, .any, .any, .any, .any, .any, .any, .any, .any, .any, .any, .any, .any, .any, .any, .any, .any, .any, .any, .any, .any, .any, .any, .any, .any, .any, .any, .any, .any, .any, .any, .any, .any, .any, .any, .any, .any, .any, .any, .any, .any, .any, .any, .any, .any, .any, .any, .any, .any, .any, .any, .any, .any, .any, .any, .any, .any, .any, .any, .any, .any, .any, .any, .any, .any, .any, .any, .any, .any, .any, .any, .any, .any, .any, .any, .any, .any, .any, .any, .any, .any, .any, .any, .any, .any, .any, .any, .any, .any, .any, .any, .any, .any, .any, .any, .any, .any, .any], [.ex false [.c (.sc (.bool t200.1)), .c (.sc (.int .u64 t.1)), .c (.sc (.int .i64 t.2)), .c (.sc (.bool t200.2.2.2))] 44, .ex false [.c (.sc (.bool t201.1)), .c (.sc (.int .u64 t201.2.1)), .c (.sc (.int .i64 t201.2.2.1)), .c (.sc (.bool t201.2.2.2))] 44], 0⟩
theorem halterref02_Div.l9_ok (t1 : Bool) (t2 : Bool) (t200 : Bool × Int × Int × Bool) (t201 : Bool × Int × Int × Bool) : ∀ (n : Nat) (x203 : Int) (x204 : Int) (r : Int × Int), halterref02_Div.l9 t1 t2 t200 t201 n x203 x204 = some r → TripN cfg (cpath (Try.f12.body.getD .skip) [1, 1, 1, 1, 1, 1, 0, 0, 0]) n (halterref02_Div.l9_S t1 t2 t200 t201 x203 x204) (halterref02_Div.l9_Q t1 t2 t200 t201 r) := by
  intro n
  induction n with
  | zero => intro x203 x204 r h; cases h
  | succ n ih =>
    intro x203 x204 r h
    rw [halterref02_Div.l9] at h
    refine TripN.of_run cfg_ok (k := (.br (.adj [] (.adj [] (.adj [] (.adj [.keep [5, 6, 7], .drop 2] .nil)))) (.adj [.keep [5, 6, 7], .drop 2] .nil))) (to_goal (q := (True) ∧ (True) ∧ (((decide (x203 < (4503599627370496 : Int))) = true → (True ∧ (True ∧ (True ∧ (True) ∧ (True) ∧ (True) ∧ (True) ∧ (True) ∧ (True) ∧ (((True) ∧ (True) ∧ True) ∧ TripN cfg (cpath (Try.f12.body.getD .skip) [1, 1, 1, 1, 1, 1, 0, 0, 0]) n (halterref02_Div.l9_S t1 t2 t200 t201 (IntKind.wrap .u64 ((2 : Int) * x203)) (IntKind.wrap .i64 (x204 - (1 : Int)))) (halterref02_Div.l9_Q t1 t2 t200 t201 r)))))) ∧ ((decide (x203 < (4503599627370496 : Int))) = false → (((True) ∧ (True) ∧ True) ∧ halterref02_Div.l9_Q t1 t2 t200 t201 r (.exit 0) ⟨[.any, .any, .any, .any, .any, .v (.one (.sc (.bool (!(t1 == t2))))), .v (.one (.ptr 0 ⟨0, 0, 0, 0⟩)), .v (.one (.ptr 1 ⟨0, 0, 0, 0⟩)), .any, .any, .any, .any, .any, .any, .any, .any, .any, .any, .any, .any, .any, .any, .any, .any, .any, .any, .any, .any, .any, .any, .any, .any, .any, .any, .any, .any, .any, .any, .any, .any, .any, .any, .any, .any, .any, .any, .any, .any, .any, .any, .any, .any, .any, .any, .any, .any, .any, .any, .any, .any, .any, .any, .any, .any, .any, .any, .any, .any, .any, .any, .any, .any, .any, .any, .any, .any, .any, .any, .any, .any, .any, .any, .any, .any, .any, .any, .any, .any, .any, .any, .any, .any, .any, .any, .any, .any, .any, .any, .any, .any, .any, .any, .any, .any, .any, .any, .any, .any, .any, .any, .any, .any, .any, .any, .any, .any, .any, .any, .any, .any, .any, .any, .any, .any], [.ex false [.c (.sc (.bool t200.1)), .c (.sc (.int .u64 x203)), .c (.sc (.int .i64 x204)), .c (.sc (.bool (z3 t200)))] 44, .ex false [.c (.sc (.bool t201.1)), .c (.sc (.int .u64 t201.2.1)), .c (.sc (.int .i64 (p2 t201))), .c (.sc (.bool (z3 t201)))] 44], 0⟩)))) (by kernel_rfl) ?_)
    refine ⟨trivial, ?_⟩
    refine ⟨trivial, ?_⟩
    refine ⟨fun b209 => ?_, fun b209 => ?_⟩
    · rw [if_pos (of_decide_eq_true b209)] at h
      refine ⟨trivial, ?_⟩
      refine ⟨trivial, ?_⟩
      refine ⟨trivial, ?_⟩
      refine ⟨trivial, ?_⟩
      refine ⟨trivial, ?_⟩
      refine ⟨trivial, ?_⟩
      refine ⟨trivial, ?_⟩
      refine ⟨trivial, ?_⟩
      refine ⟨trivial, ?_⟩
      exact ⟨⟨trivial, trivial, trivial⟩, ih (IntKind.wrap .u64 ((2 : Int) * x203)) (IntKind.wrap .i64 (x204 - (1 : Int))) r h⟩
    · rw [if_neg (of_decide_eq_false b209)] at h
      obtain rfl := Option.some.inj h
      exact ⟨⟨trivial, trivial, trivial⟩, rfl, rfl⟩
def halterref02_Div.l10 (t1 : Bool) (t2 : Bool) (t200 : Bool × Int × Int × Bool) (t201 : Bool × Int × Int × Bool) (t208 : Int × Int) : Nat → Int → Int → Option (Int × Int)
  | 0, _, _ => none
  | n + 1, x215, x216 =>
    if x215 < (4503599627370496 : Int) then
      halterref02_Div.l10 t1 t2 t200 t201 t208 n (IntKind.wrap .u64 ((2 : Int) * x215)) (IntKind.wrap .i64 (x216 - (1 : Int)))
    else
      some (x215, x216)
def halterref02_Div.l10_S (t1 : Bool) (t2 : Bool) (t200 : Bool × Int × Int × Bool) (t201 : Bool × Int × Int × Bool) (t208 : Int × Int) (x215 : Int) (x216 : Int) : St := ⟨[.any, .any, .any, .any, .any, .v (.one (.sc (.bool (!(t1 == t2))))), .v (.one (.ptr 0 ⟨0, 0, 0, 0⟩)), .v (.one (.ptr 1 ⟨0, 0, 0, 0⟩)), .any, .any, .any, .any, .any, .any, .any, .any, .any, .any, .any, .any, .any, .any, .any, .any, .any, .any, .any, .any, .any, .any, .any, .any, .any, .any, .any, .any, .any, .any, .any, .any, .any, .any, .any, .any, .any, .any, .any, .any, .any, .any, .any, .any, .any, .any, .any, .any, .any, .any, .any, .any, .any, .any, .any, .any, .any, .any, .any, .any, .any, .any, .any, .any, .any, .any, .any, .any, .any, .any, .any, .any, .any, .any, .any, .any, .any, .any, .any, .any, .any, .any, .any, .any, .any, .any, .any, .any, .any, .any, .any, .any, .any, .any, .any, .any, .any, .any, .any, .any, .any, .any, .any, .any, .any, .any, .any, .any, .any, .any, .any, .any, .any, .any, .any, .any], [.ex false [.c (.sc (.bool t200.1)), .c (.sc (.int .u64 t208.1)), .c (.sc (.int .i64 t208.2)), .c (.sc (.bool t200.2.2.2))] 44, .ex false [.c (.sc (.bool t201.1)), .c (.sc (.int .u64 x215)), .c (.sc (.int .i64 x216)), .c (.sc (.bool t201.2.2.2))] 44], 0⟩
def halterref02_Div.l10_Q (t1 : Bool) (t2 : Bool) (t200 : Bool × Int × Int × Bool) (t201 : Bool × Int × Int × Bool) (t208 : Int × Int) (t : Int × Int) : Exit → St → Prop := fun e s => e = (.exit 2) ∧ s = ⟨[.any, .any, .any, .any, .any, .v (.one (.sc (.bool (!(t1 == t2))))), .v (.one (.ptr 0 ⟨0, 0, 0, 0⟩)), .v (.one (.ptr 1 ⟨0, 0, 0, 0⟩)), .any, .any, .any, .any, .any, .any, .any, .any, .any, .any, .any, .any, .any, .any, .any, .any, .any, .any, .any, .any, .any, .any, .any, .any, .any, .any, .any, .any, .any, .any, .any, .any, .any, .any, .any, .any, .any, .any, .any, .any, .any, .any, .any, .any, .any, .any, .any, .any, .any, .any, .any, .any, .any, .any, .any, .any, .any, .any, .any, .any, .any, .any, .any, .any, .any, .any, .any, .any, .any, .any, .any, .any, .any, .any, .any, .any, .any, .any, .any, .any, .any, .any, .any, .any, .any, .any, .any, .any, .any, .any, .any, .any, .any, .any, .any, .any, .any, .any, .any, .any, .any, .any, .any, .any, .any, .any, .any, .any, .any, .any, .any, .any, .any, .any, .any, .any], [.ex false [.c (.sc (.bool t200.1)), .c (.sc (.int .u64 t208.1)), .c (.sc (.int .i64 t208.2)), .c (.sc (.bool t200.2.2.2))] 44, .ex false [.c (.sc (.bool t201.1)), .c (.sc (.int .u64 t.1)), .c (.sc (.int .i64 t.2)), .c (.sc (.bool t201.2.2.2))] 44], 0⟩
theorem halterref02_Div.l10_ok (t1 : Bool) (t2 : Bool) (t200 : Bool × Int × Int × Bool) (t201 : Bool × Int × Int × Bool) (t208 : Int × Int) : ∀ (n : Nat) (x215 : Int) (x216 : Int) (r : Int × Int), halterref02_Div.l10 t1 t2 t200 t201 t208 n x215 x216 = some r → TripN cfg (cpath (Try.f12.body.getD .skip) [1, 1, 1, 1, 1, 1, 1, 0, 0, 0]) n (halterref02_Div.l10_S t1 t2 t200 t201 t208 x215 x216) (halterref02_Div.l10_Q t1 t2 t200 t201 t208 r) := by
  intro n
  induction n with
  | zero => intro x215 x216 r h; cases h
  | succ n ih =>
    intro x215 x216 r h
    rw [halterref02_Div.l10] at h
    refine TripN.of_run cfg_ok (k := (.br (.adj [] (.adj [] (.adj [] (.adj [.keep [5, 6, 7], .drop 2] .nil)))) (.adj [.keep [5, 6, 7], .drop 2] .nil))) (to_goal (q := (True) ∧ (True) ∧ (((decide (x215 < (4503599627370496 : Int))) = true → (True ∧ (True ∧ (True ∧ (True) ∧ (True) ∧ (True) ∧ (True) ∧ (True) ∧ (True) ∧ (((True) ∧ (True) ∧ True) ∧ TripN cfg (cpath (Try.f12.body.getD .skip) [1, 1, 1, 1, 1, 1, 1, 0, 0, 0]) n (halterref02_Div.l10_S t1 t2 t200 t201 t208 (IntKind.wrap .u64 ((2 : Int) * x215)) (IntKind.wrap .i64 (x216 - (1 : Int)))) (halterref02_Div.l10_Q t1 t2 t200 t201 t208 r)))))) ∧ ((decide (x215 < (4503599627370496 : Int))) = false → (((True) ∧ (True) ∧ True) ∧ halterref02_Div.l10_Q t1 t2 t200 t201 t208 r (.exit 2) ⟨[.any, .any, .any, .any, .any, .v (.one (.sc (.bool (!(t1 == t2))))), .v (.one (.ptr 0 ⟨0, 0, 0, 0⟩)), .v (.one (.ptr 1 ⟨0, 0, 0, 0⟩)), .any, .any, .any, .any, .any, .any, .any, .any, .any, .any, .any, .any, .any, .any, .any, .any, .any, .any, .any, .any, .any, .any, .any, .any, .any, .any, .any, .any, .any, .any, .any, .any, .any, .any, .any, .any, .any, .any, .any, .any, .any, .any, .any, .any, .any, .any, .any, .any, .any, .any, .any, .any, .any, .any, .any, .any, .any, .any, .any, .any, .any, .any, .any, .any, .any, .any, .any, .any, .any, .any, .any, .any, .any, .any, .any, .any, .any, .any, .any, .any, .any, .any, .any, .any, .any, .any, .any, .any, .any, .any, .any, .any, .any, .any, .any, .any, .any, .any, .any, .any, .any, .any, .any, .any, .any, .any, .any, .any, .any, .any, .any, .any, .any, .any, .any, .any], [.ex false [.c (.sc (.bool t200.1)), .c (.sc (.int .u64 t208.1)), .c (.sc (.int .i64 t208.2)), .c (.sc (.bool (z3 t200)))] 44, .ex false [.c (.sc (.bool t201.1)), .c (.sc (.int .u64 x215)), .c (.sc (.int .i64 x216)), .c (.sc (.bool (z3 t201)))] 44], 0⟩)))) (by kernel_rfl) ?_)
    refine ⟨trivial, ?_⟩
    refine ⟨trivial, ?_⟩
    refine ⟨fun b221 => ?_, fun b221 => ?_⟩
    · rw [if_pos (of_decide_eq_true b221)] at h
      refine ⟨trivial, ?_⟩
      refine ⟨trivial, ?_⟩
      refine ⟨trivial, ?_⟩
      refine ⟨trivial, ?_⟩
      refine ⟨trivial, ?_⟩
      refine ⟨trivial, ?_⟩
      refine ⟨trivial, ?_⟩
      refine ⟨trivial, ?_⟩
      refine ⟨trivial, ?_⟩
      exact ⟨⟨trivial, trivial, trivial⟩, ih (IntKind.wrap .u64 ((2 : Int) * x215)) (IntKind.wrap .i64 (x216 - (1 : Int))) r h⟩
    · rw [if_neg (of_decide_eq_false b221)] at h
      obtain rfl := Option.some.inj h
      exact ⟨⟨trivial, trivial, trivial⟩, rfl, rfl⟩
def halterref02_Div.l11 (t1 : Bool) (t2 : Bool) (t200 : Bool × Int × Int × Bool) (t201 : Bool × Int × Int × Bool) (t208 : Int × Int) (t220 : Int × Int) : Nat → Int → Int → Int → Option (Int × Int)
  | 0, _, _, _ => none
  | n + 1, x228, x229, x230 =>
    if x230 < (60 : Int) then
      if t220.1 ≠ 0 then
        if t220.1 ≠ 0 then
          halterref02_Div.l11 t1 t2 t200 t201 t208 t220 n (IntKind.wrap .u64 ((IntKind.wrap .u64 ((2 : Int) * x228)) + (IntKind.wrap .u64 (Int.tdiv (IntKind.wrap .u64 ((2 : Int) * x229)) t220.1)))) (Int.tmod (IntKind.wrap .u64 ((2 : Int) * x229)) t220.1) (IntKind.wrap .i64 (x230 + (1 : Int)))
        else none
      else none
    else
      some (x228, x229)
def halterref02_Div.l11_S (t1 : Bool) (t2 : Bool) (t200 : Bool × Int × Int × Bool) (t201 : Bool × Int × Int × Bool) (t208 : Int × Int) (t220 : Int × Int) (x228 : Int) (x229 : Int) (x230 : Int) : St := ⟨[.any, .any, .any, .any, .any, .v (.one (.sc (.bool (!(t1 == t2))))), .v (.one (.ptr 0 ⟨0, 0, 0, 0⟩)), .v (.one (.ptr 1 ⟨0, 0, 0, 0⟩)), .v (.one (.sc (.int .u64 x228))), .v (.one (.sc (.int .u64 x229))), .v (.one (.sc (.int .i64 x230))), .any, .any, .any, .any, .any, .any, .any, .any, .any, .any, .any, .any, .any, .any, .any, .any, .any, .any, .any, .any, .any, .any, .any, .any, .any, .any, .any, .any, .any, .any, .any, .any, .any, .any, .any, .any, .any, .any, .any, .any, .any, .any, .any, .any, .any, .any, .any, .any, .any, .any, .any, .any, .any, .any, .any, .any, .any, .any, .any, .any, .any, .any, .any, .any, .any, .any, .any, .any, .any, .any, .any, .any, .any, .any, .any, .any, .any, .any, .any, .any, .any, .any, .any, .any, .any, .any, .any, .any, .any, .any, .any, .any, .any, .any, .any, .any, .any, .any, .any, .any, .any, .any, .any, .any, .any, .any, .any, .any, .any, .any, .any, .any, .any], [.ex false [.c (.sc (.bool t200.1)), .c (.sc (.int .u64 t208.1)), .c (.sc (.int .i64 t208.2)), .c (.sc (.bool t200.2.2.2))] 44, .ex false [.c (.sc (.bool t201.1)), .c (.sc (.int .u64 t220.1)), .c (.sc (.int .i64 t220.2)), .c (.sc (.bool t201.2.2.2))] 44], 0⟩
def halterref02_Div.l11_Q (t1 : Bool) (t2 : Bool) (t200 : Bool × Int × Int × Bool) (t201 : Bool × Int × Int × Bool) (t208 : Int × Int) (t220 : Int × Int) (t : Int × Int) : Exit → St → Prop := fun e s => e = (.exit 4) ∧ s = ⟨[.any, .any, .any, .any, .any, .v (.one (.sc (.bool (!(t1 == t2))))), .v (.one (.ptr 0 ⟨0, 0, 0, 0⟩)), .v (.one (.ptr 1 ⟨0, 0, 0, 0⟩)), .v (.one (.sc (.int .u64 t.1))), .v (.one (.sc (.int .u64 t.2))), .any, .any, .any, .any, .any, .any, .any, .any, .any, .any, .any, .any, .any, .any, .any, .any, .any, .any, .any, .any, .any, .any, .any, .any, .any, .any, .any, .any, .any, .any, .any, .any, .any, .any, .any, .any, .any, .any, .any, .any, .any, .any, .any, .any, .any, .any, .any, .any, .any, .any, .any, .any, .any, .any, .any, .any, .any, .any, .any, .any, .any, .any, .any, .any, .any, .any, .any, .any, .any, .any, .any, .any, .any, .any, .any, .any, .any, .any, .any, .any, .any, .any, .any, .any, .any, .any, .any, .any, .any, .any, .any, .any, .any, .any, .any, .any, .any, .any, .any, .any, .any, .any, .any, .any, .any, .any, .any, .any, .any, .any, .any, .any, .any, .any], [.ex false [.c (.sc (.bool t200.1)), .c (.sc (.int .u64 t208.1)), .c (.sc (.int .i64 t208.2)), .c (.sc (.bool t200.2.2.2))] 44, .ex false [.c (.sc (.bool t201.1)), .c (.sc (.int .u64 t220.1)), .c (.sc (.int .i64 t220.2)), .c (.sc (.bool t201.2.2.2))] 44], 0⟩
theorem halterref02_Div.l11_ok (t1 : Bool) (t2 : Bool) (t200 : Bool × Int × Int × Bool) (t201 : Bool × Int × Int × Bool) (t208 : Int × Int) (t220 : Int × Int) : ∀ (n : Nat) (x228 : Int) (x229 : Int) (x230 : Int) (r : Int × Int), halterref02_Div.l11 t1 t2 t200 t201 t208 t220 n x228 x229 x230 = some r → TripN cfg (cpath (Try.f12.body.getD .skip) [1, 1, 1, 1, 1, 1, 1, 1, 1, 0, 1, 0, 0]) n (halterref02_Div.l11_S t1 t2 t200 t201 t208 t220 x228 x229 x230) (halterref02_Div.l11_Q t1 t2 t200 t201 t208 t220 r) := by
  intro n
  induction n with
  | zero => intro x228 x229 x230 r h; cases h
  | succ n ih =>
    intro x228 x229 x230 r h
    rw [halterref02_Div.l11] at h
    refine TripN.of_run cfg_ok (k := (.br (.adj [] (.adj [] (.adj [] (.adj [] (.adj [] (.adj [] (.adj [.keep [5, 6, 7, 8, 9, 10], .drop 2] .nil))))))) (.adj [.keep [5, 6, 7, 8, 9], .drop 2] .nil))) (to_goal (q := (True) ∧ (((decide (x230 < (60 : Int))) = true → (True ∧ (True ∧ (True ∧ (True) ∧ (True ∧ (True) ∧ (True) ∧ (t220.1 ≠ 0) ∧ (True) ∧ (True ∧ (True) ∧ (t220.1 ≠ 0) ∧ (True ∧ (True) ∧ (((True) ∧ (True) ∧ True) ∧ TripN cfg (cpath (Try.f12.body.getD .skip) [1, 1, 1, 1, 1, 1, 1, 1, 1, 0, 1, 0, 0]) n (halterref02_Div.l11_S t1 t2 t200 t201 t208 t220 (IntKind.wrap .u64 ((IntKind.wrap .u64 ((2 : Int) * x228)) + (IntKind.wrap .u64 (Int.tdiv (IntKind.wrap .u64 ((2 : Int) * x229)) t220.1)))) (Int.tmod (IntKind.wrap .u64 ((2 : Int) * x229)) t220.1) (IntKind.wrap .i64 (x230 + (1 : Int)))) (halterref02_Div.l11_Q t1 t2 t200 t201 t208 t220 r))))))))) ∧ ((decide (x230 < (60 : Int))) = false → (((True) ∧ (True) ∧ True) ∧ halterref02_Div.l11_Q t1 t2 t200 t201 t208 t220 r (.exit 4) ⟨[.any, .any, .any, .any, .any, .v (.one (.sc (.bool (!(t1 == t2))))), .v (.one (.ptr 0 ⟨0, 0, 0, 0⟩)), .v (.one (.ptr 1 ⟨0, 0, 0, 0⟩)), .v (.one (.sc (.int .u64 x228))), .v (.one (.sc (.int .u64 x229))), .any, .any, .any, .any, .any, .any, .any, .any, .any, .any, .any, .any, .any, .any, .any, .any, .any, .any, .any, .any, .any, .any, .any, .any, .any, .any, .any, .any, .any, .any, .any, .any, .any, .any, .any, .any, .any, .any, .any, .any, .any, .any, .any, .any, .any, .any, .any, .any, .any, .any, .any, .any, .any, .any, .any, .any, .any, .any, .any, .any, .any, .any, .any, .any, .any, .any, .any, .any, .any, .any, .any, .any, .any, .any, .any, .any, .any, .any, .any, .any, .any, .any, .any, .any, .any, .any, .any, .any, .any, .any, .any, .any, .any, .any, .any, .any, .any, .any, .any, .any, .any, .any, .any, .any, .any, .any, .any, .any, .any, .any, .any, .any, .any, .any], [.ex false [.c (.sc (.bool t200.1)), .c (.sc (.int .u64 t208.1)), .c (.sc (.int .i64 t208.2)), .c (.sc (.bool (z3 t200)))] 44, .ex false [.c (.sc (.bool t201.1)), .c (.sc (.int .u64 t220.1)), .c (.sc (.int .i64 t220.2)), .c (.sc (.bool (z3 t201)))] 44], 0⟩)))) (by kernel_rfl) ?_)
    refine ⟨trivial, ?_⟩
    refine ⟨fun b237 => ?_, fun b237 => ?_⟩
    · rw [if_pos (of_decide_eq_true b237)] at h
      refine ⟨trivial, ?_⟩
      refine ⟨trivial, ?_⟩
      refine ⟨trivial, ?_⟩
      refine ⟨trivial, ?_⟩
      refine ⟨trivial, ?_⟩
      refine ⟨trivial, ?_⟩
      refine ⟨trivial, ?_⟩
      obtain ⟨g239, h⟩ := of_guard h
      refine ⟨g239, ?_⟩
      refine ⟨trivial, ?_⟩
      refine ⟨trivial, ?_⟩
      refine ⟨trivial, ?_⟩
      obtain ⟨g238, h⟩ := of_guard h
      refine ⟨g238, ?_⟩
      refine ⟨trivial, ?_⟩
      refine ⟨trivial, ?_⟩
      exact ⟨⟨trivial, trivial, trivial⟩, ih (IntKind.wrap .u64 ((IntKind.wrap .u64 ((2 : Int) * x228)) + (IntKind.wrap .u64 (Int.tdiv (IntKind.wrap .u64 ((2 : Int) * x229)) t220.1)))) (Int.tmod (IntKind.wrap .u64 ((2 : Int) * x229)) t220.1) (IntKind.wrap .i64 (x230 + (1 : Int))) r h⟩
    · rw [if_neg (of_decide_eq_false b237)] at h
      obtain rfl := Option.some.inj h
      exact ⟨⟨trivial, trivial, trivial⟩, rfl, rfl⟩
def halterref02_Div.f (a0 : Int) (a1 : Int) : Option Int :=
  (halterref02_Neg.f a0).bind fun t1 =>
  (halterref02_Neg.f a1).bind fun t2 =>
  (halterref02_none.f a0 a1).bind fun t3 =>
  if t3 = true then
    some (9221120237041090560 : Int)
  else
    (halterref02_Class.f a0).bind fun t5 =>
    if t5 = (3 : Int) then
      (halterref02_Class.f a1).bind fun t7 =>
      if t7 = (3 : Int) then
        some (9221120237041090560 : Int)
      else
        (halterref02_Class.f a0).bind fun t9 =>
        if t9 = (0 : Int) then
          (halterref02_Class.f a1).bind fun t11 =>
          if t11 = (0 : Int) then
            some (9221120237041090560 : Int)
          else
            (halterref02_Class.f a0).bind fun t13 =>
            if t13 = (3 : Int) then
              (halterref02_signed.f (!(t1 == t2)) (9218868437227405312 : Int)).bind fun t15 =>
              some t15
            else
              (halterref02_Class.f a1).bind fun t16 =>
              if t16 = (0 : Int) then
                (halterref02_signed.f (!(t1 == t2)) (9218868437227405312 : Int)).bind fun t18 =>
                some t18
              else
                (halterref02_Class.f a0).bind fun t19 =>
                if t19 = (0 : Int) then
                  (halterref02_signed.f (!(t1 == t2)) (0 : Int)).bind fun t21 =>
                  some t21
                else
                  (halterref02_Class.f a1).bind fun t22 =>
                  if t22 = (3 : Int) then
                    (halterref02_signed.f (!(t1 == t2)) (0 : Int)).bind fun t24 =>
                    some t24
                  else
                    (halterref02_Open.f a0).bind fun t25 =>
                    (halterref02_Open.f a1).bind fun t26 =>
                    (halterref02_Div.l0 t1 t2 t25 t26 FUEL t25.2.1 t25.2.2.1).bind fun t33 =>
                    (halterref02_Div.l1 t1 t2 t25 t26 t33 FUEL t26.2.1 t26.2.2.1).bind fun t45 =>
                    if t45.1 ≠ 0 then
                      if t45.1 ≠ 0 then
                        (halterref02_Div.l2 t1 t2 t25 t26 t33 t45 FUEL (IntKind.wrap .u64 (Int.tdiv t33.1 t45.1)) (Int.tmod t33.1 t45.1) (0 : Int)).bind fun t61 =>
                        (halterref02_Round.f (!(t1 == t2)) t61.1 (IntKind.wrap .i64 ((IntKind.wrap .i64 (t33.2 - t45.2)) - (60 : Int))) (decide (t61.2 > (0 : Int)))).bind fun t69 =>
                        some t69
                      else none
                    else none
        else
          (halterref02_Class.f a0).bind fun t70 =>
          if t70 = (3 : Int) then
            (halterref02_signed.f (!(t1 == t2)) (9218868437227405312 : Int)).bind fun t72 =>
            some t72
          else
            (halterref02_Class.f a1).bind fun t73 =>
            if t73 = (0 : Int) then
              (halterref02_signed.f (!(t1 == t2)) (9218868437227405312 : Int)).bind fun t75 =>
              some t75
            else
              (halterref02_Class.f a0).bind fun t76 =>
              if t76 = (0 : Int) then
                (halterref02_signed.f (!(t1 == t2)) (0 : Int)).bind fun t78 =>
                some t78
              else
                (halterref02_Class.f a1).bind fun t79 =>
                if t79 = (3 : Int) then
                  (halterref02_signed.f (!(t1 == t2)) (0 : Int)).bind fun t81 =>
                  some t81
                else
                  (halterref02_Open.f a0).bind fun t82 =>
                  (halterref02_Open.f a1).bind fun t83 =>
                  (halterref02_Div.l3 t1 t2 t82 t83 FUEL t82.2.1 t82.2.2.1).bind fun t90 =>
                  (halterref02_Div.l4 t1 t2 t82 t83 t90 FUEL t83.2.1 t83.2.2.1).bind fun t102 =>
                  if t102.1 ≠ 0 then
                    if t102.1 ≠ 0 then
                      (halterref02_Div.l5 t1 t2 t82 t83 t90 t102 FUEL (IntKind.wrap .u64 (Int.tdiv t90.1 t102.1)) (Int.tmod t90.1 t102.1) (0 : Int)).bind fun t118 =>
                      (halterref02_Round.f (!(t1 == t2)) t118.1 (IntKind.wrap .i64 ((IntKind.wrap .i64 (t90.2 - t102.2)) - (60 : Int))) (decide (t118.2 > (0 : Int)))).bind fun t126 =>
                      some t126
                    else none
                  else none
    else
      (halterref02_Class.f a0).bind fun t127 =>
      if t127 = (0 : Int) then
        (halterref02_Class.f a1).bind fun t129 =>
        if t129 = (0 : Int) then
          some (9221120237041090560 : Int)
        else
          (halterref02_Class.f a0).bind fun t131 =>
          if t131 = (3 : Int) then
            (halterref02_signed.f (!(t1 == t2)) (9218868437227405312 : Int)).bind fun t133 =>
            some t133
          else
            (halterref02_Class.f a1).bind fun t134 =>
            if t134 = (0 : Int) then
              (halterref02_signed.f (!(t1 == t2)) (9218868437227405312 : Int)).bind fun t136 =>
              some t136
            else
              (halterref02_Class.f a0).bind fun t137 =>
              if t137 = (0 : Int) then
                (halterref02_signed.f (!(t1 == t2)) (0 : Int)).bind fun t139 =>
                some t139
              else
                (halterref02_Class.f a1).bind fun t140 =>
                if t140 = (3 : Int) then
                  (halterref02_signed.f (!(t1 == t2)) (0 : Int)).bind fun t142 =>
                  some t142
                else
                  (halterref02_Open.f a0).bind fun t143 =>
                  (halterref02_Open.f a1).bind fun t144 =>
                  (halterref02_Div.l6 t1 t2 t143 t144 FUEL t143.2.1 t143.2.2.1).bind fun t151 =>
                  (halterref02_Div.l7 t1 t2 t143 t144 t151 FUEL t144.2.1 t144.2.2.1).bind fun t163 =>
                  if t163.1 ≠ 0 then
                    if t163.1 ≠ 0 then
                      (halterref02_Div.l8 t1 t2 t143 t144 t151 t163 FUEL (IntKind.wrap .u64 (Int.tdiv t151.1 t163.1)) (Int.tmod t151.1 t163.1) (0 : Int)).bind fun t179 =>
                      (halterref02_Round.f (!(t1 == t2)) t179.1 (IntKind.wrap .i64 ((IntKind.wrap .i64 (t151.2 - t163.2)) - (60 : Int))) (decide (t179.2 > (0 : Int)))).bind fun t187 =>
                      some t187
                    else none
                  else none
      else
        (halterref02_Class.f a0).bind fun t188 =>
        if t188 = (3 : Int) then
          (halterref02_signed.f (!(t1 == t2)) (9218868437227405312 : Int)).bind fun t190 =>
          some t190
        else
          (halterref02_Class.f a1).bind fun t191 =>
          if t191 = (0 : Int) then
            (halterref02_signed.f (!(t1 == t2)) (9218868437227405312 : Int)).bind fun t193 =>
            some t193
          else
            (halterref02_Class.f a0).bind fun t194 =>
            if t194 = (0 : Int) then
              (halterref02_signed.f (!(t1 == t2)) (0 : Int)).bind fun t196 =>
              some t196
            else
              (halterref02_Class.f a1).bind fun t197 =>
              if t197 = (3 : Int) then
                (halterref02_signed.f (!(t1 == t2)) (0 : Int)).bind fun t199 =>
                some t199
              else
                (halterref02_Open.f a0).bind fun t200 =>
                (halterref02_Open.f a1).bind fun t201 =>
                (halterref02_Div.l9 t1 t2 t200 t201 FUEL t200.2.1 t200.2.2.1).bind fun t208 =>
                (halterref02_Div.l10 t1 t2 t200 t201 t208 FUEL t201.2.1 t201.2.2.1).bind fun t220 =>
                if t220.1 ≠ 0 then
                  if t220.1 ≠ 0 then
                    (halterref02_Div.l11 t1 t2 t200 t201 t208 t220 FUEL (IntKind.wrap .u64 (Int.tdiv t208.1 t220.1)) (Int.tmod t208.1 t220.1) (0 : Int)).bind fun t236 =>
                    (halterref02_Round.f (!(t1 == t2)) t236.1 (IntKind.wrap .i64 ((IntKind.wrap .i64 (t208.2 - t220.2)) - (60 : Int))) (decide (t236.2 > (0 : Int)))).bind fun t244 =>
                    some t244
                  else none
                else none
def halterref02_Div.R (r : Int) : Tm := .v (.one (.sc (.int .u64 r)))
theorem halterref02_Div.fun_ {a0 : Int} {a1 : Int} {r : Int} (h : halterref02_Div.f a0 a1 = some r) : Fun cfg 12 [.one (.sc (.int .u64 a0)), .one (.sc (.int .u64 a1))] [] (halterref02_Div.R r) [] := by
  unfold halterref02_Div.f at h
  refine fun_of_run cfg_ok (f := 12) (fn := Try.f12) Try.func12 rfl (by kernel_rfl) (rs := [.tmp 4]) rfl (nt := 124) rfl (l := fin) (k := (.call true [] (Bool) (fun t1 => halterref02_Neg.R t1) (fun t1 => (.call true [] (Bool) (fun t2 => halterref02_Neg.R t2) (fun t2 => (.call true [] (Bool) (fun t3 => halterref02_none.R t3) (fun t3 => (.br (.one true (.one true (.one true (.one true (.one true (.one true (.one true (.one true (.one true (.one true (.one true (.one true (.adj [] (.adj [] (.adj [] .nil))))))))))))))) (.one false (.call true [] (Int) (fun t5 => halterref02_Class.R t5) (fun t5 => (.one false (.one false (.br (.one true (.call true [] (Int) (fun t7 => halterref02_Class.R t7) (fun t7 => (.one true (.one false (.one true (.one false (.br (.one true (.one true (.one true (.one true (.one true (.one true (.adj [] (.adj [] (.adj [] .nil))))))))) (.one false (.call true [] (Int) (fun t9 => halterref02_Class.R t9) (fun t9 => (.one false (.one false (.br (.one true (.call true [] (Int) (fun t11 => halterref02_Class.R t11) (fun t11 => (.one true (.one false (.one true (.one false (.br (.adj [] (.adj [] (.adj [] .nil))) (.call true [] (Int) (fun t13 => halterref02_Class.R t13) (fun t13 => (.br (.one true (.one true (.one true (.one true (.call true [] (Int) (fun t15 => halterref02_signed.R t15) (fun t15 => (.adj [] (.adj [] .nil)))))))) (.one false (.call true [] (Int) (fun t16 => halterref02_Class.R t16) (fun t16 => (.one false (.one false (.br (.call true [] (Int) (fun t18 => halterref02_signed.R t18) (fun t18 => (.adj [] (.adj [] .nil)))) (.call true [] (Int) (fun t19 => halterref02_Class.R t19) (fun t19 => (.br (.one true (.one true (.one true (.one true (.call true [] (Int) (fun t21 => halterref02_signed.R t21) (fun t21 => (.adj [] (.adj [] .nil)))))))) (.one false (.call true [] (Int) (fun t22 => halterref02_Class.R t22) (fun t22 => (.one false (.one false (.br (.call true [] (Int) (fun t24 => halterref02_signed.R t24) (fun t24 => (.adj [] (.adj [] .nil)))) (.call true [] (Bool × Int × Int × Bool) (fun t25 => halterref02_Open.R t25) (fun t25 => (.call true [] (Bool × Int × Int × Bool) (fun t26 => halterref02_Open.R t26) (fun t26 => (.adj [] (.adj [.keep [5, 6, 7]] (.sub (Int × Int) (fun _ => (.exit 0)) (fun t33 => ⟨[.any, .any, .any, .any, .any, .v (.one (.sc (.bool (!(t1 == t2))))), .v (.one (.ptr 0 ⟨0, 0, 0, 0⟩)), .v (.one (.ptr 1 ⟨0, 0, 0, 0⟩)), .any, .any, .any, .any, .any, .any, .any, .any, .any, .any, .any, .any, .any, .any, .any, .any, .any, .any, .any, .any, .any, .any, .any, .any, .any, .any, .any, .any, .any, .any, .any, .any, .any, .any, .any, .any, .any, .any, .any, .any, .any, .any, .any, .any, .any, .any, .any, .any, .any, .any, .any, .any, .any, .any, .any, .any, .any, .any, .any, .any, .any, .any, .any, .any, .any, .any, .any, .any, .any, .any, .any, .any, .any, .any, .any, .any, .any, .any, .any, .any, .any, .any, .any, .any, .any, .any, .any, .any, .any, .any, .any, .any, .any, .any, .any, .any, .any, .any, .any, .any, .any, .any, .any, .any, .any, .any, .any, .any, .any, .any, .any, .any, .any, .any, .any, .any], [.ex false [.c (.sc (.bool t25.1)), .c (.sc (.int .u64 t33.1)), .c (.sc (.int .i64 t33.2)), .c (.sc (.bool (z3 t25)))] 44, .ex false [.c (.sc (.bool t26.1)), .c (.sc (.int .u64 t26.2.1)), .c (.sc (.int .i64 (p2 t26))), .c (.sc (.bool (z3 t26)))] 44], 0⟩) (fun t33 => (.adj [] (.adj [.keep [5, 6, 7]] (.sub (Int × Int) (fun _ => (.exit 2)) (fun t45 => ⟨[.any, .any, .any, .any, .any, .v (.one (.sc (.bool (!(t1 == t2))))), .v (.one (.ptr 0 ⟨0, 0, 0, 0⟩)), .v (.one (.ptr 1 ⟨0, 0, 0, 0⟩)), .any, .any, .any, .any, .any, .any, .any, .any, .any, .any, .any, .any, .any, .any, .any, .any, .any, .any, .any, .any, .any, .any, .any, .any, .any, .any, .any, .any, .any, .any, .any, .any, .any, .any, .any, .any, .any, .any, .any, .any, .any, .any, .any, .any, .any, .any, .any, .any, .any, .any, .any, .any, .any, .any, .any, .any, .any, .any, .any, .any, .any, .any, .any, .any, .any, .any, .any, .any, .any, .any, .any, .any, .any, .any, .any, .any, .any, .any, .any, .any, .any, .any, .any, .any, .any, .any, .any, .any, .any, .any, .any, .any, .any, .any, .any, .any, .any, .any, .any, .any, .any, .any, .any, .any, .any, .any, .any, .any, .any, .any, .any, .any, .any, .any, .any, .any], [.ex false [.c (.sc (.bool t25.1)), .c (.sc (.int .u64 t33.1)), .c (.sc (.int .i64 t33.2)), .c (.sc (.bool (z3 t25)))] 44, .ex false [.c (.sc (.bool t26.1)), .c (.sc (.int .u64 t45.1)), .c (.sc (.int .i64 t45.2)), .c (.sc (.bool (z3 t26)))] 44], 0⟩) (fun t45 => (.dr [(0, dN), (2, dN), (5, dN), (7, dN), (1, dN), (3, dN), (4, dN), (10, dN), (6, dN), (8, dN), (9, dN), (11, dN)] (.adj [] (.adj [] (.adj [.keep [5, 6, 7, 8, 9, 10]] (.sub (Int × Int) (fun _ => (.exit 4)) (fun t61 => ⟨[.any, .any, .any, .any, .any, .v (.one (.sc (.bool (!(t1 == t2))))), .v (.one (.ptr 0 ⟨0, 0, 0, 0⟩)), .v (.one (.ptr 1 ⟨0, 0, 0, 0⟩)), .v (.one (.sc (.int .u64 t61.1))), .v (.one (.sc (.int .u64 t61.2))), .any, .any, .any, .any, .any, .any, .any, .any, .any, .any, .any, .any, .any, .any, .any, .any, .any, .any, .any, .any, .any, .any, .any, .any, .any, .any, .any, .any, .any, .any, .any, .any, .any, .any, .any, .any, .any, .any, .any, .any, .any, .any, .any, .any, .any, .any, .any, .any, .any, .any, .any, .any, .any, .any, .any, .any, .any, .any, .any, .any, .any, .any, .any, .any, .any, .any, .any, .any, .any, .any, .any, .any, .any, .any, .any, .any, .any, .any, .any, .any, .any, .any, .any, .any, .any, .any, .any, .any, .any, .any, .any, .any, .any, .any, .any, .any, .any, .any, .any, .any, .any, .any, .any, .any, .any, .any, .any, .any, .any, .any, .any, .any, .any, .any], [.ex false [.c (.sc (.bool t25.1)), .c (.sc (.int .u64 t33.1)), .c (.sc (.int .i64 t33.2)), .c (.sc (.bool (z3 t25)))] 44, .ex false [.c (.sc (.bool t26.1)), .c (.sc (.int .u64 t45.1)), .c (.sc (.int .i64 t45.2)), .c (.sc (.bool (z3 t26)))] 44], 0⟩) (fun t61 => (.call true [] (Int) (fun t69 => halterref02_Round.R t69) (fun t69 => (.adj [] (.adj [.drop 0] .nil)))))))))))))))))))))))))))))))))))))))))))))))) (.one false (.one false (.one false (.one false (.one false (.one false (.call true [] (Int) (fun t70 => halterref02_Class.R t70) (fun t70 => (.br (.one true (.one true (.one true (.one true (.call true [] (Int) (fun t72 => halterref02_signed.R t72) (fun t72 => (.adj [] (.adj [] .nil)))))))) (.one false (.call true [] (Int) (fun t73 => halterref02_Class.R t73) (fun t73 => (.one false (.one false (.br (.call true [] (Int) (fun t75 => halterref02_signed.R t75) (fun t75 => (.adj [] (.adj [] .nil)))) (.call true [] (Int) (fun t76 => halterref02_Class.R t76) (fun t76 => (.br (.one true (.one true (.one true (.one true (.call true [] (Int) (fun t78 => halterref02_signed.R t78) (fun t78 => (.adj [] (.adj [] .nil)))))))) (.one false (.call true [] (Int) (fun t79 => halterref02_Class.R t79) (fun t79 => (.one false (.one false (.br (.call true [] (Int) (fun t81 => halterref02_signed.R t81) (fun t81 => (.adj [] (.adj [] .nil)))) (.call true [] (Bool × Int × Int × Bool) (fun t82 => halterref02_Open.R t82) (fun t82 => (.call true [] (Bool × Int × Int × Bool) (fun t83 => halterref02_Open.R t83) (fun t83 => (.adj [] (.adj [.keep [5, 6, 7]] (.sub (Int × Int) (fun _ => (.exit 0)) (fun t90 => ⟨[.any, .any, .any, .any, .any, .v (.one (.sc (.bool (!(t1 == t2))))), .v (.one (.ptr 0 ⟨0, 0, 0, 0⟩)), .v (.one (.ptr 1 ⟨0, 0, 0, 0⟩)), .any, .any, .any, .any, .any, .any, .any, .any, .any, .any, .any, .any, .any, .any, .any, .any, .any, .any, .any, .any, .any, .any, .any, .any, .any, .any, .any, .any, .any, .any, .any, .any, .any, .any, .any, .any, .any, .any, .any, .any, .any, .any, .any, .any, .any, .any, .any, .any, .any, .any, .any, .any, .any, .any, .any, .any, .any, .any, .any, .any, .any, .any, .any, .any, .any, .any, .any, .any, .any, .any, .any, .any, .any, .any, .any, .any, .any, .any, .any, .any, .any, .any, .any, .any, .any, .any, .any, .any, .any, .any, .any, .any, .any, .any, .any, .any, .any, .any, .any, .any, .any, .any, .any, .any, .any, .any, .any, .any, .any, .any, .any, .any, .any, .any, .any, .any], [.ex false [.c (.sc (.bool t82.1)), .c (.sc (.int .u64 t90.1)), .c (.sc (.int .i64 t90.2)), .c (.sc (.bool (z3 t82)))] 44, .ex false [.c (.sc (.bool t83.1)), .c (.sc (.int .u64 t83.2.1)), .c (.sc (.int .i64 (p2 t83))), .c (.sc (.bool (z3 t83)))] 44], 0⟩) (fun t90 => (.adj [] (.adj [.keep [5, 6, 7]] (.sub (Int × Int) (fun _ => (.exit 2)) (fun t102 => ⟨[.any, .any, .any, .any, .any, .v (.one (.sc (.bool (!(t1 == t2))))), .v (.one (.ptr 0 ⟨0, 0, 0, 0⟩)), .v (.one (.ptr 1 ⟨0, 0, 0, 0⟩)), .any, .any, .any, .any, .any, .any, .any, .any, .any, .any, .any, .any, .any, .any, .any, .any, .any, .any, .any, .any, .any, .any, .any, .any, .any, .any, .any, .any, .any, .any, .any, .any, .any, .any, .any, .any, .any, .any, .any, .any, .any, .any, .any, .any, .any, .any, .any, .any, .any, .any, .any, .any, .any, .any, .any, .any, .any, .any, .any, .any, .any, .any, .any, .any, .any, .any, .any, .any, .any, .any, .any, .any, .any, .any, .any, .any, .any, .any, .any, .any, .any, .any, .any, .any, .any, .any, .any, .any, .any, .any, .any, .any, .any, .any, .any, .any, .any, .any, .any, .any, .any, .any, .any, .any, .any, .any, .any, .any, .any, .any, .any, .any, .any, .any, .any, .any], [.ex false [.c (.sc (.bool t82.1)), .c (.sc (.int .u64 t90.1)), .c (.sc (.int .i64 t90.2)), .c (.sc (.bool (z3 t82)))] 44, .ex false [.c (.sc (.bool t83.1)), .c (.sc (.int .u64 t102.1)), .c (.sc (.int .i64 t102.2)), .c (.sc (.bool (z3 t83)))] 44], 0⟩) (fun t102 => (.dr [(0, dN), (2, dN), (5, dN), (7, dN), (1, dN), (3, dN), (4, dN), (10, dN), (6, dN), (8, dN), (9, dN), (11, dN)] (.adj [] (.adj [] (.adj [.keep [5, 6, 7, 8, 9, 10]] (.sub (Int × Int) (fun _ => (.exit 4)) (fun t118 => ⟨[.any, .any, .any, .any, .any, .v (.one (.sc (.bool (!(t1 == t2))))), .v (.one (.ptr 0 ⟨0, 0, 0, 0⟩)), .v (.one (.ptr 1 ⟨0, 0, 0, 0⟩)), .v (.one (.sc (.int .u64 t118.1))), .v (.one (.sc (.int .u64 t118.2))), .any, .any, .any, .any, .any, .any, .any, .any, .any, .any, .any, .any, .any, .any, .any, .any, .any, .any, .any, .any, .any, .any, .any, .any, .any, .any, .any, .any, .any, .any, .any, .any, .any, .any, .any, .any, .any, .any, .any, .any, .any, .any, .any, .any, .any, .any, .any, .any, .any, .any, .any, .any, .any, .any, .any, .any, .any, .any, .any, .any, .any, .any, .any, .any, .any, .any, .any, .any, .any, .any, .any, .any, .any, .any, .any, .any, .any, .any, .any, .any, .any, .any, .any, .any, .any, .any, .any, .any, .any, .any, .any, .any, .any, .any, .any, .any, .any, .any, .any, .any, .any, .any, .any, .any, .any, .any, .any, .any, .any, .any, .any, .any, .any, .any], [.ex false [.c (.sc (.bool t82.1)), .c (.sc (.int .u64 t90.1)), .c (.sc (.int .i64 t90.2)), .c (.sc (.bool (z3 t82)))] 44, .ex false [.c (.sc (.bool t83.1)), .c (.sc (.int .u64 t102.1)), .c (.sc (.int .i64 t102.2)), .c (.sc (.bool (z3 t83)))] 44], 0⟩) (fun t118 => (.call true [] (Int) (fun t126 => halterref02_Round.R t126) (fun t126 => (.adj [] (.adj [.drop 0] .nil)))))))))))))))))))))))))))))))))))))))))))))))))))))))))))) (.one false (.one false (.one false (.one false (.one false (.one false (.one false (.call true [] (Int) (fun t127 => halterref02_Class.R t127) (fun t127 => (.one false (.one false (.br (.one true (.call true [] (Int) (fun t129 => halterref02_Class.R t129) (fun t129 => (.one true (.one false (.one true (.one false (.br (.adj [] (.adj [] (.adj [] .nil))) (.call true [] (Int) (fun t131 => halterref02_Class.R t131) (fun t131 => (.br (.one true (.one true (.one true (.one true (.call true [] (Int) (fun t133 => halterref02_signed.R t133) (fun t133 => (.adj [] (.adj [] .nil)))))))) (.one false (.call true [] (Int) (fun t134 => halterref02_Class.R t134) (fun t134 => (.one false (.one false (.br (.call true [] (Int) (fun t136 => halterref02_signed.R t136) (fun t136 => (.adj [] (.adj [] .nil)))) (.call true [] (Int) (fun t137 => halterref02_Class.R t137) (fun t137 => (.br (.one true (.one true (.one true (.one true (.call true [] (Int) (fun t139 => halterref02_signed.R t139) (fun t139 => (.adj [] (.adj [] .nil)))))))) (.one false (.call true [] (Int) (fun t140 => halterref02_Class.R t140) (fun t140 => (.one false (.one false (.br (.call true [] (Int) (fun t142 => halterref02_signed.R t142) (fun t142 => (.adj [] (.adj [] .nil)))) (.call true [] (Bool × Int × Int × Bool) (fun t143 => halterref02_Open.R t143) (fun t143 => (.call true [] (Bool × Int × Int × Bool) (fun t144 => halterref02_Open.R t144) (fun t144 => (.adj [] (.adj [.keep [5, 6, 7]] (.sub (Int × Int) (fun _ => (.exit 0)) (fun t151 => ⟨[.any, .any, .any, .any, .any, .v (.one (.sc (.bool (!(t1 == t2))))), .v (.one (.ptr 0 ⟨0, 0, 0, 0⟩)), .v (.one (.ptr 1 ⟨0, 0, 0, 0⟩)), .any, .any, .any, .any, .any, .any, .any, .any, .any, .any, .any, .any, .any, .any, .any, .any, .any, .any, .any, .any, .any, .any, .any, .any, .any, .any, .any, .any, .any, .any, .any, .any, .any, .any, .any, .any, .any, .any, .any, .any, .any, .any, .any, .any, .any, .any, .any, .any, .any, .any, .any, .any, .any, .any, .any, .any, .any, .any, .any, .any, .any, .any, .any, .any, .any, .any, .any, .any, .any, .any, .any, .any, .any, .any, .any, .any, .any, .any, .any, .any, .any, .any, .any, .any, .any, .any, .any, .any, .any, .any, .any, .any, .any, .any, .any, .any, .any, .any, .any, .any, .any, .any, .any, .any, .any, .any, .any, .any, .any, .any, .any, .any, .any, .any, .any, .any], [.ex false [.c (.sc (.bool t143.1)), .c (.sc (.int .u64 t151.1)), .c (.sc (.int .i64 t151.2)), .c (.sc (.bool (z3 t143)))] 44, .ex false [.c (.sc (.bool t144.1)), .c (.sc (.int .u64 t144.2.1)), .c (.sc (.int .i64 (p2 t144))), .c (.sc (.bool (z3 t144)))] 44], 0⟩) (fun t151 => (.adj [] (.adj [.keep [5, 6, 7]] (.sub (Int × Int) (fun _ => (.exit 2)) (fun t163 => ⟨[.any, .any, .any, .any, .any, .v (.one (.sc (.bool (!(t1 == t2))))), .v (.one (.ptr 0 ⟨0, 0, 0, 0⟩)), .v (.one (.ptr 1 ⟨0, 0, 0, 0⟩)), .any, .any, .any, .any, .any, .any, .any, .any, .any, .any, .any, .any, .any, .any, .any, .any, .any, .any, .any, .any, .any, .any, .any, .any, .any, .any, .any, .any, .any, .any, .any, .any, .any, .any, .any, .any, .any, .any, .any, .any, .any, .any, .any, .any, .any, .any, .any, .any, .any, .any, .any, .any, .any, .any, .any, .any, .any, .any, .any, .any, .any, .any, .any, .any, .any, .any, .any, .any, .any, .any, .any, .any, .any, .any, .any, .any, .any, .any, .any, .any, .any, .any, .any, .any, .any, .any, .any, .any, .any, .any, .any, .any, .any, .any, .any, .any, .any, .any, .any, .any, .any, .any, .any, .any, .any, .any, .any, .any, .any, .any, .any, .any, .any, .any, .any, .any], [.ex false [.c (.sc (.bool t143.1)), .c (.sc (.int .u64 t151.1)), .c (.sc (.int .i64 t151.2)), .c (.sc (.bool (z3 t143)))] 44, .ex false [.c (.sc (.bool t144.1)), .c (.sc (.int .u64 t163.1)), .c (.sc (.int .i64 t163.2)), .c (.sc (.bool (z3 t144)))] 44], 0⟩) (fun t163 => (.dr [(0, dN), (2, dN), (5, dN), (7, dN), (1, dN), (3, dN), (4, dN), (10, dN), (6, dN), (8, dN), (9, dN), (11, dN)] (.adj [] (.adj [] (.adj [.keep [5, 6, 7, 8, 9, 10]] (.sub (Int × Int) (fun _ => (.exit 4)) (fun t179 => ⟨[.any, .any, .any, .any, .any, .v (.one (.sc (.bool (!(t1 == t2))))), .v (.one (.ptr 0 ⟨0, 0, 0, 0⟩)), .v (.one (.ptr 1 ⟨0, 0, 0, 0⟩)), .v (.one (.sc (.int .u64 t179.1))), .v (.one (.sc (.int .u64 t179.2))), .any, .any, .any, .any, .any, .any, .any, .any, .any, .any, .any, .any, .any, .any, .any, .any, .any, .any, .any, .any, .any, .any, .any, .any, .any, .any, .any, .any, .any, .any, .any, .any, .any, .any, .any, .any, .any, .any, .any, .any, .any, .any, .any, .any, .any, .any, .any, .any, .any, .any, .any, .any, .any, .any, .any, .any, .any, .any, .any, .any, .any, .any, .any, .any, .any, .any, .any, .any, .any, .any, .any, .any, .any, .any, .any, .any, .any, .any, .any, .any, .any, .any, .any, .any, .any, .any, .any, .any, .any, .any, .any, .any, .any, .any, .any, .any, .any, .any, .any, .any, .any, .any, .any, .any, .any, .any, .any, .any, .any, .any, .any, .any, .any, .any], [.ex false [.c (.sc (.bool t143.1)), .c (.sc (.int .u64 t151.1)), .c (.sc (.int .i64 t151.2)), .c (.sc (.bool (z3 t143)))] 44, .ex false [.c (.sc (.bool t144.1)), .c (.sc (.int .u64 t163.1)), .c (.sc (.int .i64 t163.2)), .c (.sc (.bool (z3 t144)))] 44], 0⟩) (fun t179 => (.call true [] (Int) (fun t187 => halterref02_Round.R t187) (fun t187 => (.adj [] (.adj [.drop 0] .nil)))))))))))))))))))))))))))))))))))))))))))))))) (.one false (.one false (.one false (.one false (.one false (.one false (.call true [] (Int) (fun t188 => halterref02_Class.R t188) (fun t188 => (.br (.one true (.one true (.one true (.one true (.call true [] (Int) (fun t190 => halterref02_signed.R t190) (fun t190 => (.adj [] (.adj [] .nil)))))))) (.one false (.call true [] (Int) (fun t191 => halterref02_Class.R t191) (fun t191 => (.one false (.one false (.br (.call true [] (Int) (fun t193 => halterref02_signed.R t193) (fun t193 => (.adj [] (.adj [] .nil)))) (.call true [] (Int) (fun t194 => halterref02_Class.R t194) (fun t194 => (.br (.one true (.one true (.one true (.one true (.call true [] (Int) (fun t196 => halterref02_signed.R t196) (fun t196 => (.adj [] (.adj [] .nil)))))))) (.one false (.call true [] (Int) (fun t197 => halterref02_Class.R t197) (fun t197 => (.one false (.one false (.br (.call true [] (Int) (fun t199 => halterref02_signed.R t199) (fun t199 => (.adj [] (.adj [] .nil)))) (.call true [] (Bool × Int × Int × Bool) (fun t200 => halterref02_Open.R t200) (fun t200 => (.call true [] (Bool × Int × Int × Bool) (fun t201 => halterref02_Open.R t201) (fun t201 => (.adj [] (.adj [.keep [5, 6, 7]] (.sub (Int × Int) (fun _ => (.exit 0)) (fun t208 => ⟨[.any, .any, .any, .any, .any, .v (.one (.sc (.bool (!(t1 == t2))))), .v (.one (.ptr 0 ⟨0, 0, 0, 0⟩)), .v (.one (.ptr 1 ⟨0, 0, 0, 0⟩)), .any, .any, .any, .any, .any, .any, .any, .any, .any, .any, .any, .any, .any, .any, .any, .any, .any, .any, .any, .any, .any, .any, .any, .any, .any, .any, .any, .any, .any, .any, .any, .any, .any, .any, .any, .any, .any, .any, .any, .any, .any, .any, .any, .any, .any, .any, .any, .any, .any, .any, .any, .any, .any, .any, .any, .any, .any, .any, .any, .any, .any, .any, .any, .any, .any, .any, .any, .any, .any, .any, .any, .any, .any, .any, .any, .any, .any, .any, .any, .any, .any, .any, .any, .any, .any, .any, .any, .any, .any, .any, .any, .any, .any, .any, .any, .any, .any, .any, .any, .any, .any, .any, .any, .any, .any, .any, .any, .any, .any, .any, .any, .any, .any, .any, .any, .any], [.ex false [.c (.sc (.bool t200.1)), .c (.sc (.int .u64 t208.1)), .c (.sc (.int .i64 t208.2)), .c (.sc (.bool (z3 t200)))] 44, .ex false [.c (.sc (.bool t201.1)), .c (.sc (.int .u64 t201.2.1)), .c (.sc (.int .i64 (p2 t201))), .c (.sc (.bool (z3 t201)))] 44], 0⟩) (fun t208 => (.adj [] (.adj [.keep [5, 6, 7]] (.sub (Int × Int) (fun _ => (.exit 2)) (fun t220 => ⟨[.any, .any, .any, .any, .any, .v (.one (.sc (.bool (!(t1 == t2))))), .v (.one (.ptr 0 ⟨0, 0, 0, 0⟩)), .v (.one (.ptr 1 ⟨0, 0, 0, 0⟩)), .any, .any, .any, .any, .any, .any, .any, .any, .any, .any, .any, .any, .any, .any, .any, .any, .any, .any, .any, .any, .any, .any, .any, .any, .any, .any, .any, .any, .any, .any, .any, .any, .any, .any, .any, .any, .any, .any, .any, .any, .any, .any, .any, .any, .any, .any, .any, .any, .any, .any, .any, .any, .any, .any, .any, .any, .any, .any, .any, .any, .any, .any, .any, .any, .any, .any, .any, .any, .any, .any, .any, .any, .any, .any, .any, .any, .any, .any, .any, .any, .any, .any, .any, .any, .any, .any, .any, .any, .any, .any, .any, .any, .any, .any, .any, .any, .any, .any, .any, .any, .any, .any, .any, .any, .any, .any, .any, .any, .any, .any, .any, .any, .any, .any, .any, .any], [.ex false [.c (.sc (.bool t200.1)), .c (.sc (.int .u64 t208.1)), .c (.sc (.int .i64 t208.2)), .c (.sc (.bool (z3 t200)))] 44, .ex false [.c (.sc (.bool t201.1)), .c (.sc (.int .u64 t220.1)), .c (.sc (.int .i64 t220.2)), .c (.sc (.bool (z3 t201)))] 44], 0⟩) (fun t220 => (.dr [(0, dN), (2, dN), (5, dN), (7, dN), (1, dN), (3, dN), (4, dN), (10, dN), (6, dN), (8, dN), (9, dN), (11, dN)] (.adj [] (.adj [] (.adj [.keep [5, 6, 7, 8, 9, 10]] (.sub (Int × Int) (fun _ => (.exit 4)) (fun t236 => ⟨[.any, .any, .any, .any, .any, .v (.one (.sc (.bool (!(t1 == t2))))), .v (.one (.ptr 0 ⟨0, 0, 0, 0⟩)), .v (.one (.ptr 1 ⟨0, 0, 0, 0⟩)), .v (.one (.sc (.int .u64 t236.1))), .v (.one (.sc (.int .u64 t236.2))), .any, .any, .any, .any, .any, .any, .any, .any, .any, .any, .any, .any, .any, .any, .any, .any, .any, .any, .any, .any, .any, .any, .any, .any, .any, .any, .any, .any, .any, .any, .any, .any, .any, .any, .any, .any, .any, .any, .any, .any, .any, .any, .any, .any, .any, .any, .any, .any, .any, .any, .any, .any, .any, .any, .any, .any, .any, .any, .any, .any, .any, .any, .any, .any, .any, .any, .any, .any, .any, .any, .any, .any, .any, .any, .any, .any, .any, .any, .any, .any, .any, .any, .any, .any, .any, .any, .any, .any, .any, .any, .any, .any, .any, .any, .any, .any, .any, .any, .any, .any, .any, .any, .any, .any, .any, .any, .any, .any, .any, .any, .any, .any, .any, .any], [.ex false [.c (.sc (.bool t200.1)), .c (.sc (.int .u64 t208.1)), .c (.sc (.int .i64 t208.2)), .c (.sc (.bool (z3 t200)))] 44, .ex false [.c (.sc (.bool t201.1)), .c (.sc (.int .u64 t220.1)), .c (.sc (.int .i64 t220.2)), .c (.sc (.bool (z3 t201)))] 44], 0⟩) (fun t236 => (.call true [] (Int) (fun t244 => halterref02_Round.R t244) (fun t244 => (.adj [] (.adj [.drop 0] .nil)))))))))))))))))))))))))))))))))))))))))))))))))))))))))))))))))))))))) (to_goal (q := (∃ t1 : Bool, (Fun cfg 38 [.one (.sc (.int .u64 a0))] [] (halterref02_Neg.R t1) [] ∧ True) ∧ (∃ t2 : Bool, (Fun cfg 38 [.one (.sc (.int .u64 a1))] [] (halterref02_Neg.R t2) [] ∧ True) ∧ (True) ∧ (∃ t3 : Bool, (Fun cfg 39 [.one (.sc (.int .u64 a0)), .one (.sc (.int .u64 a1))] [] (halterref02_none.R t3) [] ∧ True) ∧ ((t3 = false → (t3 = false ∧ (∃ t5 : Int, (Fun cfg 21 [.one (.sc (.int .u64 a0))] [] (halterref02_Class.R t5) [] ∧ True) ∧ (t3 = false ∧ (True) ∧ (t3 = false ∧ (((t5 == (3 : Int)) = true → ((t5 == (3 : Int)) = true ∧ (∃ t7 : Int, (Fun cfg 21 [.one (.sc (.int .u64 a1))] [] (halterref02_Class.R t7) [] ∧ True) ∧ ((t5 == (3 : Int)) = true ∧ (True) ∧ (t3 = false ∧ ((t5 == (3 : Int)) = true ∧ (t3 = false ∧ (((t7 == (3 : Int)) = false → ((t7 == (3 : Int)) = false ∧ (∃ t9 : Int, (Fun cfg 21 [.one (.sc (.int .u64 a0))] [] (halterref02_Class.R t9) [] ∧ True) ∧ ((t7 == (3 : Int)) = false ∧ (True) ∧ ((t7 == (3 : Int)) = false ∧ (((t9 == (0 : Int)) = true → ((t9 == (0 : Int)) = true ∧ (∃ t11 : Int, (Fun cfg 21 [.one (.sc (.int .u64 a1))] [] (halterref02_Class.R t11) [] ∧ True) ∧ ((t9 == (0 : Int)) = true ∧ (True) ∧ ((t7 == (3 : Int)) = false ∧ ((t9 == (0 : Int)) = true ∧ ((t7 == (3 : Int)) = false ∧ (((t11 == (0 : Int)) = true → (True ∧ (True ∧ ((True) ∧ (True) ∧ (.v (.one (.sc (.int .u64 (9221120237041090560 : Int)))) : Tm) = halterref02_Div.R r ∧ ([] : List Box) = [])))) ∧ ((t11 == (0 : Int)) = false → (∃ t13 : Int, (Fun cfg 21 [.one (.sc (.int .u64 a0))] [] (halterref02_Class.R t13) [] ∧ True) ∧ (True) ∧ (((t13 == (3 : Int)) = false → ((t13 == (3 : Int)) = false ∧ (∃ t16 : Int, (Fun cfg 21 [.one (.sc (.int .u64 a1))] [] (halterref02_Class.R t16) [] ∧ True) ∧ ((t13 == (3 : Int)) = false ∧ (True) ∧ ((t13 == (3 : Int)) = false ∧ (((t16 == (0 : Int)) = true → (∃ t18 : Int, (Fun cfg 40 [.one (.sc (.bool (!(t1 == t2)))), .one (.sc (.int .u64 (9218868437227405312 : Int)))] [] (halterref02_signed.R t18) [] ∧ True) ∧ (True ∧ ((True) ∧ (True) ∧ (.v (.one (.sc (.int .u64 t18))) : Tm) = halterref02_Div.R r ∧ ([] : List Box) = [])))) ∧ ((t16 == (0 : Int)) = false → (∃ t19 : Int, (Fun cfg 21 [.one (.sc (.int .u64 a0))] [] (halterref02_Class.R t19) [] ∧ True) ∧ (True) ∧ (((t19 == (0 : Int)) = false → ((t19 == (0 : Int)) = false ∧ (∃ t22 : Int, (Fun cfg 21 [.one (.sc (.int .u64 a1))] [] (halterref02_Class.R t22) [] ∧ True) ∧ ((t19 == (0 : Int)) = false ∧ (True) ∧ ((t19 == (0 : Int)) = false ∧ (((t22 == (3 : Int)) = true → (∃ t24 : Int, (Fun cfg 40 [.one (.sc (.bool (!(t1 == t2)))), .one (.sc (.int .u64 (0 : Int)))] [] (halterref02_signed.R t24) [] ∧ True) ∧ (True ∧ ((True) ∧ (True) ∧ (.v (.one (.sc (.int .u64 t24))) : Tm) = halterref02_Div.R r ∧ ([] : List Box) = [])))) ∧ ((t22 == (3 : Int)) = false → (∃ t25 : Bool × Int × Int × Bool, (Fun cfg 41 [.one (.sc (.int .u64 a0))] [] (halterref02_Open.R t25) [] ∧ True) ∧ (∃ t26 : Bool × Int × Int × Bool, (Fun cfg 41 [.one (.sc (.int .u64 a1))] [] (halterref02_Open.R t26) [] ∧ True) ∧ (True) ∧ (True) ∧ (True ∧ (((True) ∧ True) ∧ (∃ t33 : Int × Int, Trip cfg (.loop (cpath (Try.f12.body.getD .skip) [1, 1, 1, 1, 1, 1, 0, 0, 0])) ⟨[.any, .any, .any, .any, .any, .v (.one (.sc (.bool (!(t1 == t2))))), .v (.one (.ptr 0 ⟨0, 0, 0, 0⟩)), .v (.one (.ptr 1 ⟨0, 0, 0, 0⟩)), .any, .any, .any, .any, .any, .any, .any, .any, .any, .any, .any, .any, .any, .any, .any, .any, .any, .any, .any, .any, .any, .any, .any, .any, .any, .any, .any, .any, .any, .any, .any, .any, .any, .any, .any, .any, .any, .any, .any, .any, .any, .any, .any, .any, .any, .any, .any, .any, .any, .any, .any, .any, .any, .any, .any, .any, .any, .any, .any, .any, .any, .any, .any, .any, .any, .any, .any, .any, .any, .any, .any, .any, .any, .any, .any, .any, .any, .any, .any, .any, .any, .any, .any, .any, .any, .any, .any, .any, .any, .any, .any, .any, .any, .any, .any, .any, .any, .any, .any, .any, .any, .any, .any, .any, .any, .any, .any, .any, .any, .any, .any, .any, .any, .any, .any, .any], [.ex false [.c (.sc (.bool t25.1)), .c (.sc (.int .u64 t25.2.1)), .c (.sc (.int .i64 (p2 t25))), .c (.sc (.bool (z3 t25)))] 44, .ex false [.c (.sc (.bool t26.1)), .c (.sc (.int .u64 t26.2.1)), .c (.sc (.int .i64 (p2 t26))), .c (.sc (.bool (z3 t26)))] 44], 0⟩ (fun e s => e = (.exit 0) ∧ s = ⟨[.any, .any, .any, .any, .any, .v (.one (.sc (.bool (!(t1 == t2))))), .v (.one (.ptr 0 ⟨0, 0, 0, 0⟩)), .v (.one (.ptr 1 ⟨0, 0, 0, 0⟩)), .any, .any, .any, .any, .any, .any, .any, .any, .any, .any, .any, .any, .any, .any, .any, .any, .any, .any, .any, .any, .any, .any, .any, .any, .any, .any, .any, .any, .any, .any, .any, .any, .any, .any, .any, .any, .any, .any, .any, .any, .any, .any, .any, .any, .any, .any, .any, .any, .any, .any, .any, .any, .any, .any, .any, .any, .any, .any, .any, .any, .any, .any, .any, .any, .any, .any, .any, .any, .any, .any, .any, .any, .any, .any, .any, .any, .any, .any, .any, .any, .any, .any, .any, .any, .any, .any, .any, .any, .any, .any, .any, .any, .any, .any, .any, .any, .any, .any, .any, .any, .any, .any, .any, .any, .any, .any, .any, .any, .any, .any, .any, .any, .any, .any, .any, .any], [.ex false [.c (.sc (.bool t25.1)), .c (.sc (.int .u64 t33.1)), .c (.sc (.int .i64 t33.2)), .c (.sc (.bool (z3 t25)))] 44, .ex false [.c (.sc (.bool t26.1)), .c (.sc (.int .u64 t26.2.1)), .c (.sc (.int .i64 (p2 t26))), .c (.sc (.bool (z3 t26)))] 44], 0⟩) ∧ (True ∧ (((True) ∧ True) ∧ (∃ t45 : Int × Int, Trip cfg (.loop (cpath (Try.f12.body.getD .skip) [1, 1, 1, 1, 1, 1, 1, 0, 0, 0])) ⟨[.any, .any, .any, .any, .any, .v (.one (.sc (.bool (!(t1 == t2))))), .v (.one (.ptr 0 ⟨0, 0, 0, 0⟩)), .v (.one (.ptr 1 ⟨0, 0, 0, 0⟩)), .any, .any, .any, .any, .any, .any, .any, .any, .any, .any, .any, .any, .any, .any, .any, .any, .any, .any, .any, .any, .any, .any, .any, .any, .any, .any, .any, .any, .any, .any, .any, .any, .any, .any, .any, .any, .any, .any, .any, .any, .any, .any, .any, .any, .any, .any, .any, .any, .any, .any, .any, .any, .any, .any, .any, .any, .any, .any, .any, .any, .any, .any, .any, .any, .any, .any, .any, .any, .any, .any, .any, .any, .any, .any, .any, .any, .any, .any, .any, .any, .any, .any, .any, .any, .any, .any, .any, .any, .any, .any, .any, .any, .any, .any, .any, .any, .any, .any, .any, .any, .any, .any, .any, .any, .any, .any, .any, .any, .any, .any, .any, .any, .any, .any, .any, .any], [.ex false [.c (.sc (.bool t25.1)), .c (.sc (.int .u64 t33.1)), .c (.sc (.int .i64 t33.2)), .c (.sc (.bool (z3 t25)))] 44, .ex false [.c (.sc (.bool t26.1)), .c (.sc (.int .u64 t26.2.1)), .c (.sc (.int .i64 (p2 t26))), .c (.sc (.bool (z3 t26)))] 44], 0⟩ (fun e s => e = (.exit 2) ∧ s = ⟨[.any, .any, .any, .any, .any, .v (.one (.sc (.bool (!(t1 == t2))))), .v (.one (.ptr 0 ⟨0, 0, 0, 0⟩)), .v (.one (.ptr 1 ⟨0, 0, 0, 0⟩)), .any, .any, .any, .any, .any, .any, .any, .any, .any, .any, .any, .any, .any, .any, .any, .any, .any, .any, .any, .any, .any, .any, .any, .any, .any, .any, .any, .any, .any, .any, .any, .any, .any, .any, .any, .any, .any, .any, .any, .any, .any, .any, .any, .any, .any, .any, .any, .any, .any, .any, .any, .any, .any, .any, .any, .any, .any, .any, .any, .any, .any, .any, .any, .any, .any, .any, .any, .any, .any, .any, .any, .any, .any, .any, .any, .any, .any, .any, .any, .any, .any, .any, .any, .any, .any, .any, .any, .any, .any, .any, .any, .any, .any, .any, .any, .any, .any, .any, .any, .any, .any, .any, .any, .any, .any, .any, .any, .any, .any, .any, .any, .any, .any, .any, .any, .any], [.ex false [.c (.sc (.bool t25.1)), .c (.sc (.int .u64 t33.1)), .c (.sc (.int .i64 t33.2)), .c (.sc (.bool (z3 t25)))] 44, .ex false [.c (.sc (.bool t26.1)), .c (.sc (.int .u64 t45.1)), .c (.sc (.int .i64 t45.2)), .c (.sc (.bool (z3 t26)))] 44], 0⟩) ∧ (True) ∧ (True) ∧ (t45.1 ≠ 0) ∧ (True) ∧ (True) ∧ (t45.1 ≠ 0) ∧ (True ∧ (True ∧ (((True) ∧ True) ∧ (∃ t61 : Int × Int, Trip cfg (.loop (cpath (Try.f12.body.getD .skip) [1, 1, 1, 1, 1, 1, 1, 1, 1, 0, 1, 0, 0])) ⟨[.any, .any, .any, .any, .any, .v (.one (.sc (.bool (!(t1 == t2))))), .v (.one (.ptr 0 ⟨0, 0, 0, 0⟩)), .v (.one (.ptr 1 ⟨0, 0, 0, 0⟩)), .v (.one (.sc (.int .u64 (IntKind.wrap .u64 (Int.tdiv t33.1 t45.1))))), .v (.one (.sc (.int .u64 (Int.tmod t33.1 t45.1)))), .v (.one (.sc (.int .i64 (0 : Int)))), .any, .any, .any, .any, .any, .any, .any, .any, .any, .any, .any, .any, .any, .any, .any, .any, .any, .any, .any, .any, .any, .any, .any, .any, .any, .any, .any, .any, .any, .any, .any, .any, .any, .any, .any, .any, .any, .any, .any, .any, .any, .any, .any, .any, .any, .any, .any, .any, .any, .any, .any, .any, .any, .any, .any, .any, .any, .any, .any, .any, .any, .any, .any, .any, .any, .any, .any, .any, .any, .any, .any, .any, .any, .any, .any, .any, .any, .any, .any, .any, .any, .any, .any, .any, .any, .any, .any, .any, .any, .any, .any, .any, .any, .any, .any, .any, .any, .any, .any, .any, .any, .any, .any, .any, .any, .any, .any, .any, .any, .any, .any, .any, .any], [.ex false [.c (.sc (.bool t25.1)), .c (.sc (.int .u64 t33.1)), .c (.sc (.int .i64 t33.2)), .c (.sc (.bool (z3 t25)))] 44, .ex false [.c (.sc (.bool t26.1)), .c (.sc (.int .u64 t45.1)), .c (.sc (.int .i64 t45.2)), .c (.sc (.bool (z3 t26)))] 44], 0⟩ (fun e s => e = (.exit 4) ∧ s = ⟨[.any, .any, .any, .any, .any, .v (.one (.sc (.bool (!(t1 == t2))))), .v (.one (.ptr 0 ⟨0, 0, 0, 0⟩)), .v (.one (.ptr 1 ⟨0, 0, 0, 0⟩)), .v (.one (.sc (.int .u64 t61.1))), .v (.one (.sc (.int .u64 t61.2))), .any, .any, .any, .any, .any, .any, .any, .any, .any, .any, .any, .any, .any, .any, .any, .any, .any, .any, .any, .any, .any, .any, .any, .any, .any, .any, .any, .any, .any, .any, .any, .any, .any, .any, .any, .any, .any, .any, .any, .any, .any, .any, .any, .any, .any, .any, .any, .any, .any, .any, .any, .any, .any, .any, .any, .any, .any, .any, .any, .any, .any, .any, .any, .any, .any, .any, .any, .any, .any, .any, .any, .any, .any, .any, .any, .any, .any, .any, .any, .any, .any, .any, .any, .any, .any, .any, .any, .any, .any, .any, .any, .any, .any, .any, .any, .any, .any, .any, .any, .any, .any, .any, .any, .any, .any, .any, .any, .any, .any, .any, .any, .any, .any, .any], [.ex false [.c (.sc (.bool t25.1)), .c (.sc (.int .u64 t33.1)), .c (.sc (.int .i64 t33.2)), .c (.sc (.bool (z3 t25)))] 44, .ex false [.c (.sc (.bool t26.1)), .c (.sc (.int .u64 t45.1)), .c (.sc (.int .i64 t45.2)), .c (.sc (.bool (z3 t26)))] 44], 0⟩) ∧ (True) ∧ (True) ∧ (True) ∧ (True) ∧ (True) ∧ (∃ t69 : Int, (Fun cfg 43 [.agg [.c (.sc (.bool (!(t1 == t2)))), .c (.sc (.int .u64 t61.1)), .c (.sc (.int .i64 (IntKind.wrap .i64 ((IntKind.wrap .i64 (t33.2 - t45.2)) - (60 : Int))))), .c (.sc (.bool (decide (t61.2 > (0 : Int)))))]] [] (halterref02_Round.R t69) [] ∧ True) ∧ (True ∧ ((True) ∧ ((True) ∧ True) ∧ (.v (.one (.sc (.int .u64 t69))) : Tm) = halterref02_Div.R r ∧ ([] : List Box) = [])))))))))))))))))))))) ∧ ((t19 == (0 : Int)) = true → ((t19 == (0 : Int)) = true ∧ ((t19 == (0 : Int)) = true ∧ ((t19 == (0 : Int)) = true ∧ (true = true ∧ (∃ t21 : Int, (Fun cfg 40 [.one (.sc (.bool (!(t1 == t2)))), .one (.sc (.int .u64 (0 : Int)))] [] (halterref02_signed.R t21) [] ∧ True) ∧ (True ∧ ((True) ∧ (True) ∧ (.v (.one (.sc (.int .u64 t21))) : Tm) = halterref02_Div.R r ∧ ([] : List Box) = []))))))))))))))))) ∧ ((t13 == (3 : Int)) = true → ((t13 == (3 : Int)) = true ∧ ((t13 == (3 : Int)) = true ∧ ((t13 == (3 : Int)) = true ∧ (true = true ∧ (∃ t15 : Int, (Fun cfg 40 [.one (.sc (.bool (!(t1 == t2)))), .one (.sc (.int .u64 (9218868437227405312 : Int)))] [] (halterref02_signed.R t15) [] ∧ True) ∧ (True ∧ ((True) ∧ (True) ∧ (.v (.one (.sc (.int .u64 t15))) : Tm) = halterref02_Div.R r ∧ ([] : List Box) = []))))))))))))))))))) ∧ ((t9 == (0 : Int)) = false → ((t9 == (0 : Int)) = false ∧ ((t9 == (0 : Int)) = false ∧ ((t7 == (3 : Int)) = false ∧ ((t9 == (0 : Int)) = false ∧ ((t7 == (3 : Int)) = false ∧ (false = false ∧ (∃ t70 : Int, (Fun cfg 21 [.one (.sc (.int .u64 a0))] [] (halterref02_Class.R t70) [] ∧ True) ∧ (True) ∧ (((t70 == (3 : Int)) = false → ((t70 == (3 : Int)) = false ∧ (∃ t73 : Int, (Fun cfg 21 [.one (.sc (.int .u64 a1))] [] (halterref02_Class.R t73) [] ∧ True) ∧ ((t70 == (3 : Int)) = false ∧ (True) ∧ ((t70 == (3 : Int)) = false ∧ (((t73 == (0 : Int)) = true → (∃ t75 : Int, (Fun cfg 40 [.one (.sc (.bool (!(t1 == t2)))), .one (.sc (.int .u64 (9218868437227405312 : Int)))] [] (halterref02_signed.R t75) [] ∧ True) ∧ (True ∧ ((True) ∧ (True) ∧ (.v (.one (.sc (.int .u64 t75))) : Tm) = halterref02_Div.R r ∧ ([] : List Box) = [])))) ∧ ((t73 == (0 : Int)) = false → (∃ t76 : Int, (Fun cfg 21 [.one (.sc (.int .u64 a0))] [] (halterref02_Class.R t76) [] ∧ True) ∧ (True) ∧ (((t76 == (0 : Int)) = false → ((t76 == (0 : Int)) = false ∧ (∃ t79 : Int, (Fun cfg 21 [.one (.sc (.int .u64 a1))] [] (halterref02_Class.R t79) [] ∧ True) ∧ ((t76 == (0 : Int)) = false ∧ (True) ∧ ((t76 == (0 : Int)) = false ∧ (((t79 == (3 : Int)) = true → (∃ t81 : Int, (Fun cfg 40 [.one (.sc (.bool (!(t1 == t2)))), .one (.sc (.int .u64 (0 : Int)))] [] (halterref02_signed.R t81) [] ∧ True) ∧ (True ∧ ((True) ∧ (True) ∧ (.v (.one (.sc (.int .u64 t81))) : Tm) = halterref02_Div.R r ∧ ([] : List Box) = [])))) ∧ ((t79 == (3 : Int)) = false → (∃ t82 : Bool × Int × Int × Bool, (Fun cfg 41 [.one (.sc (.int .u64 a0))] [] (halterref02_Open.R t82) [] ∧ True) ∧ (∃ t83 : Bool × Int × Int × Bool, (Fun cfg 41 [.one (.sc (.int .u64 a1))] [] (halterref02_Open.R t83) [] ∧ True) ∧ (True) ∧ (True) ∧ (True ∧ (((True) ∧ True) ∧ (∃ t90 : Int × Int, Trip cfg (.loop (cpath (Try.f12.body.getD .skip) [1, 1, 1, 1, 1, 1, 0, 0, 0])) ⟨[.any, .any, .any, .any, .any, .v (.one (.sc (.bool (!(t1 == t2))))), .v (.one (.ptr 0 ⟨0, 0, 0, 0⟩)), .v (.one (.ptr 1 ⟨0, 0, 0, 0⟩)), .any, .any, .any, .any, .any, .any, .any, .any, .any, .any, .any, .any, .any, .any, .any, .any, .any, .any, .any, .any, .any, .any, .any, .any, .any, .any, .any, .any, .any, .any, .any, .any, .any, .any, .any, .any, .any, .any, .any, .any, .any, .any, .any, .any, .any, .any, .any, .any, .any, .any, .any, .any, .any, .any, .any, .any, .any, .any, .any, .any, .any, .any, .any, .any, .any, .any, .any, .any, .any, .any, .any, .any, .any, .any, .any, .any, .any, .any, .any, .any, .any, .any, .any, .any, .any, .any, .any, .any, .any, .any, .any, .any, .any, .any, .any, .any, .any, .any, .any, .any, .any, .any, .any, .any, .any, .any, .any, .any, .any, .any, .any, .any, .any, .any, .any, .any], [.ex false [.c (.sc (.bool t82.1)), .c (.sc (.int .u64 t82.2.1)), .c (.sc (.int .i64 (p2 t82))), .c (.sc (.bool (z3 t82)))] 44, .ex false [.c (.sc (.bool t83.1)), .c (.sc (.int .u64 t83.2.1)), .c (.sc (.int .i64 (p2 t83))), .c (.sc (.bool (z3 t83)))] 44], 0⟩ (fun e s => e = (.exit 0) ∧ s = ⟨[.any, .any, .any, .any, .any, .v (.one (.sc (.bool (!(t1 == t2))))), .v (.one (.ptr 0 ⟨0, 0, 0, 0⟩)), .v (.one (.ptr 1 ⟨0, 0, 0, 0⟩)), .any, .any, .any, .any, .any, .any, .any, .any, .any, .any, .any, .any, .any, .any, .any, .any, .any, .any, .any, .any, .any, .any, .any, .any, .any, .any, .any, .any, .any, .any, .any, .any, .any, .any, .any, .any, .any, .any, .any, .any, .any, .any, .any, .any, .any, .any, .any, .any, .any, .any, .any, .any, .any, .any, .any, .any, .any, .any, .any, .any, .any, .any, .any, .any, .any, .any, .any, .any, .any, .any, .any, .any, .any, .any, .any, .any, .any, .any, .any, .any, .any, .any, .any, .any, .any, .any, .any, .any, .any, .any, .any, .any, .any, .any, .any, .any, .any, .any, .any, .any, .any, .any, .any, .any, .any, .any, .any, .any, .any, .any, .any, .any, .any, .any, .any, .any], [.ex false [.c (.sc (.bool t82.1)), .c (.sc (.int .u64 t90.1)), .c (.sc (.int .i64 t90.2)), .c (.sc (.bool (z3 t82)))] 44, .ex false [.c (.sc (.bool t83.1)), .c (.sc (.int .u64 t83.2.1)), .c (.sc (.int .i64 (p2 t83))), .c (.sc (.bool (z3 t83)))] 44], 0⟩) ∧ (True ∧ (((True) ∧ True) ∧ (∃ t102 : Int × Int, Trip cfg (.loop (cpath (Try.f12.body.getD .skip) [1, 1, 1, 1, 1, 1, 1, 0, 0, 0])) ⟨[.any, .any, .any, .any, .any, .v (.one (.sc (.bool (!(t1 == t2))))), .v (.one (.ptr 0 ⟨0, 0, 0, 0⟩)), .v (.one (.ptr 1 ⟨0, 0, 0, 0⟩)), .any, .any, .any, .any, .any, .any, .any, .any, .any, .any, .any, .any, .any, .any, .any, .any, .any, .any, .any, .any, .any, .any, .any, .any, .any, .any, .any, .any, .any, .any, .any, .any, .any, .any, .any, .any, .any, .any, .any, .any, .any, .any, .any, .any, .any, .any, .any, .any, .any, .any, .any, .any, .any, .any, .any, .any, .any, .any, .any, .any, .any, .any, .any, .any, .any, .any, .any, .any, .any, .any, .any, .any, .any, .any, .any, .any, .any, .any, .any, .any, .any, .any, .any, .any, .any, .any, .any, .any, .any, .any, .any, .any, .any, .any, .any, .any, .any, .any, .any, .any, .any, .any, .any, .any, .any, .any, .any, .any, .any, .any, .any, .any, .any, .any, .any, .any], [.ex false [.c (.sc (.bool t82.1)), .c (.sc (.int .u64 t90.1)), .c (.sc (.int .i64 t90.2)), .c (.sc (.bool (z3 t82)))] 44, .ex false [.c (.sc (.bool t83.1)), .c (.sc (.int .u64 t83.2.1)), .c (.sc (.int .i64 (p2 t83))), .c (.sc (.bool (z3 t83)))] 44], 0⟩ (fun e s => e = (.exit 2) ∧ s = ⟨[.any, .any, .any, .any, .any, .v (.one (.sc (.bool (!(t1 == t2))))), .v (.one (.ptr 0 ⟨0, 0, 0, 0⟩)), .v (.one (.ptr 1 ⟨0, 0, 0, 0⟩)), .any, .any, .any, .any, .any, .any, .any, .any, .any, .any, .any, .any, .any, .any, .any, .any, .any, .any, .any, .any, .any, .any, .any, .any, .any, .any, .any, .any, .any, .any, .any, .any, .any, .any, .any, .any, .any, .any, .any, .any, .any, .any, .any, .any, .any, .any, .any, .any, .any, .any, .any, .any, .any, .any, .any, .any, .any, .any, .any, .any, .any, .any, .any, .any, .any, .any, .any, .any, .any, .any, .any, .any, .any, .any, .any, .any, .any, .any, .any, .any, .any, .any, .any, .any, .any, .any, .any, .any, .any, .any, .any, .any, .any, .any, .any, .any, .any, .any, .any, .any, .any, .any, .any, .any, .any, .any, .any, .any, .any, .any, .any, .any, .any, .any, .any, .any], [.ex false [.c (.sc (.bool t82.1)), .c (.sc (.int .u64 t90.1)), .c (.sc (.int .i64 t90.2)), .c (.sc (.bool (z3 t82)))] 44, .ex false [.c (.sc (.bool t83.1)), .c (.sc (.int .u64 t102.1)), .c (.sc (.int .i64 t102.2)), .c (.sc (.bool (z3 t83)))] 44], 0⟩) ∧ (True) ∧ (True) ∧ (t102.1 ≠ 0) ∧ (True) ∧ (True) ∧ (t102.1 ≠ 0) ∧ (True ∧ (True ∧ (((True) ∧ True) ∧ (∃ t118 : Int × Int, Trip cfg (.loop (cpath (Try.f12.body.getD .skip) [1, 1, 1, 1, 1, 1, 1, 1, 1, 0, 1, 0, 0])) ⟨[.any, .any, .any, .any, .any, .v (.one (.sc (.bool (!(t1 == t2))))), .v (.one (.ptr 0 ⟨0, 0, 0, 0⟩)), .v (.one (.ptr 1 ⟨0, 0, 0, 0⟩)), .v (.one (.sc (.int .u64 (IntKind.wrap .u64 (Int.tdiv t90.1 t102.1))))), .v (.one (.sc (.int .u64 (Int.tmod t90.1 t102.1)))), .v (.one (.sc (.int .i64 (0 : Int)))), .any, .any, .any, .any, .any, .any, .any, .any, .any, .any, .any, .any, .any, .any, .any, .any, .any, .any, .any, .any, .any, .any, .any, .any, .any, .any, .any, .any, .any, .any, .any, .any, .any, .any, .any, .any, .any, .any, .any, .any, .any, .any, .any, .any, .any, .any, .any, .any, .any, .any, .any, .any, .any, .any, .any, .any, .any, .any, .any, .any, .any, .any, .any, .any, .any, .any, .any, .any, .any, .any, .any, .any, .any, .any, .any, .any, .any, .any, .any, .any, .any, .any, .any, .any, .any, .any, .any, .any, .any, .any, .any, .any, .any, .any, .any, .any, .any, .any, .any, .any, .any, .any, .any, .any, .any, .any, .any, .any, .any, .any, .any, .any, .any], [.ex false [.c (.sc (.bool t82.1)), .c (.sc (.int .u64 t90.1)), .c (.sc (.int .i64 t90.2)), .c (.sc (.bool (z3 t82)))] 44, .ex false [.c (.sc (.bool t83.1)), .c (.sc (.int .u64 t102.1)), .c (.sc (.int .i64 t102.2)), .c (.sc (.bool (z3 t83)))] 44], 0⟩ (fun e s => e = (.exit 4) ∧ s = ⟨[.any, .any, .any, .any, .any, .v (.one (.sc (.bool (!(t1 == t2))))), .v (.one (.ptr 0 ⟨0, 0, 0, 0⟩)), .v (.one (.ptr 1 ⟨0, 0, 0, 0⟩)), .v (.one (.sc (.int .u64 t118.1))), .v (.one (.sc (.int .u64 t118.2))), .any, .any, .any, .any, .any, .any, .any, .any, .any, .any, .any, .any, .any, .any, .any, .any, .any, .any, .any, .any, .any, .any, .any, .any, .any, .any, .any, .any, .any, .any, .any, .any, .any, .any, .any, .any, .any, .any, .any, .any, .any, .any, .any, .any, .any, .any, .any, .any, .any, .any, .any, .any, .any, .any, .any, .any, .any, .any, .any, .any, .any, .any, .any, .any, .any, .any, .any, .any, .any, .any, .any, .any, .any, .any, .any, .any, .any, .any, .any, .any, .any, .any, .any, .any, .any, .any, .any, .any, .any, .any, .any, .any, .any, .any, .any, .any, .any, .any, .any, .any, .any, .any, .any, .any, .any, .any, .any, .any, .any, .any, .any, .any, .any, .any], [.ex false [.c (.sc (.bool t82.1)), .c (.sc (.int .u64 t90.1)), .c (.sc (.int .i64 t90.2)), .c (.sc (.bool (z3 t82)))] 44, .ex false [.c (.sc (.bool t83.1)), .c (.sc (.int .u64 t102.1)), .c (.sc (.int .i64 t102.2)), .c (.sc (.bool (z3 t83)))] 44], 0⟩) ∧ (True) ∧ (True) ∧ (True) ∧ (True) ∧ (True) ∧ (∃ t126 : Int, (Fun cfg 43 [.agg [.c (.sc (.bool (!(t1 == t2)))), .c (.sc (.int .u64 t118.1)), .c (.sc (.int .i64 (IntKind.wrap .i64 ((IntKind.wrap .i64 (t90.2 - t102.2)) - (60 : Int))))), .c (.sc (.bool (decide (t118.2 > (0 : Int)))))]] [] (halterref02_Round.R t126) [] ∧ True) ∧ (True ∧ ((True) ∧ ((True) ∧ True) ∧ (.v (.one (.sc (.int .u64 t126))) : Tm) = halterref02_Div.R r ∧ ([] : List Box) = [])))))))))))))))))))))) ∧ ((t76 == (0 : Int)) = true → ((t76 == (0 : Int)) = true ∧ ((t76 == (0 : Int)) = true ∧ ((t76 == (0 : Int)) = true ∧ (true = true ∧ (∃ t78 : Int, (Fun cfg 40 [.one (.sc (.bool (!(t1 == t2)))), .one (.sc (.int .u64 (0 : Int)))] [] (halterref02_signed.R t78) [] ∧ True) ∧ (True ∧ ((True) ∧ (True) ∧ (.v (.one (.sc (.int .u64 t78))) : Tm) = halterref02_Div.R r ∧ ([] : List Box) = []))))))))))))))))) ∧ ((t70 == (3 : Int)) = true → ((t70 == (3 : Int)) = true ∧ ((t70 == (3 : Int)) = true ∧ ((t70 == (3 : Int)) = true ∧ (true = true ∧ (∃ t72 : Int, (Fun cfg 40 [.one (.sc (.bool (!(t1 == t2)))), .one (.sc (.int .u64 (9218868437227405312 : Int)))] [] (halterref02_signed.R t72) [] ∧ True) ∧ (True ∧ ((True) ∧ (True) ∧ (.v (.one (.sc (.int .u64 t72))) : Tm) = halterref02_Div.R r ∧ ([] : List Box) = []))))))))))))))))))))))) ∧ ((t7 == (3 : Int)) = true → ((t7 == (3 : Int)) = true ∧ ((t7 == (3 : Int)) = true ∧ ((t7 == (3 : Int)) = true ∧ ((t7 == (3 : Int)) = true ∧ ((t7 == (3 : Int)) = true ∧ (true = true ∧ (True ∧ (True ∧ ((True) ∧ (True) ∧ (.v (.one (.sc (.int .u64 (9221120237041090560 : Int)))) : Tm) = halterref02_Div.R r ∧ ([] : List Box) = [])))))))))))))))))) ∧ ((t5 == (3 : Int)) = false → ((t5 == (3 : Int)) = false ∧ ((t5 == (3 : Int)) = false ∧ (t3 = false ∧ ((t5 == (3 : Int)) = false ∧ (t3 = false ∧ (false = false ∧ (false = false ∧ (∃ t127 : Int, (Fun cfg 21 [.one (.sc (.int .u64 a0))] [] (halterref02_Class.R t127) [] ∧ True) ∧ (false = false ∧ (True) ∧ (false = false ∧ (((t127 == (0 : Int)) = true → ((t127 == (0 : Int)) = true ∧ (∃ t129 : Int, (Fun cfg 21 [.one (.sc (.int .u64 a1))] [] (halterref02_Class.R t129) [] ∧ True) ∧ ((t127 == (0 : Int)) = true ∧ (True) ∧ (false = false ∧ ((t127 == (0 : Int)) = true ∧ (false = false ∧ (((t129 == (0 : Int)) = true → (True ∧ (True ∧ ((True) ∧ (True) ∧ (.v (.one (.sc (.int .u64 (9221120237041090560 : Int)))) : Tm) = halterref02_Div.R r ∧ ([] : List Box) = [])))) ∧ ((t129 == (0 : Int)) = false → (∃ t131 : Int, (Fun cfg 21 [.one (.sc (.int .u64 a0))] [] (halterref02_Class.R t131) [] ∧ True) ∧ (True) ∧ (((t131 == (3 : Int)) = false → ((t131 == (3 : Int)) = false ∧ (∃ t134 : Int, (Fun cfg 21 [.one (.sc (.int .u64 a1))] [] (halterref02_Class.R t134) [] ∧ True) ∧ ((t131 == (3 : Int)) = false ∧ (True) ∧ ((t131 == (3 : Int)) = false ∧ (((t134 == (0 : Int)) = true → (∃ t136 : Int, (Fun cfg 40 [.one (.sc (.bool (!(t1 == t2)))), .one (.sc (.int .u64 (9218868437227405312 : Int)))] [] (halterref02_signed.R t136) [] ∧ True) ∧ (True ∧ ((True) ∧ (True) ∧ (.v (.one (.sc (.int .u64 t136))) : Tm) = halterref02_Div.R r ∧ ([] : List Box) = [])))) ∧ ((t134 == (0 : Int)) = false → (∃ t137 : Int, (Fun cfg 21 [.one (.sc (.int .u64 a0))] [] (halterref02_Class.R t137) [] ∧ True) ∧ (True) ∧ (((t137 == (0 : Int)) = false → ((t137 == (0 : Int)) = false ∧ (∃ t140 : Int, (Fun cfg 21 [.one (.sc (.int .u64 a1))] [] (halterref02_Class.R t140) [] ∧ True) ∧ ((t137 == (0 : Int)) = false ∧ (True) ∧ ((t137 == (0 : Int)) = false ∧ (((t140 == (3 : Int)) = true → (∃ t142 : Int, (Fun cfg 40 [.one (.sc (.bool (!(t1 == t2)))), .one (.sc (.int .u64 (0 : Int)))] [] (halterref02_signed.R t142) [] ∧ True) ∧ (True ∧ ((True) ∧ (True) ∧ (.v (.one (.sc (.int .u64 t142))) : Tm) = halterref02_Div.R r ∧ ([] : List Box) = [])))) ∧ ((t140 == (3 : Int)) = false → (∃ t143 : Bool × Int × Int × Bool, (Fun cfg 41 [.one (.sc (.int .u64 a0))] [] (halterref02_Open.R t143) [] ∧ True) ∧ (∃ t144 : Bool × Int × Int × Bool, (Fun cfg 41 [.one (.sc (.int .u64 a1))] [] (halterref02_Open.R t144) [] ∧ True) ∧ (True) ∧ (True) ∧ (True ∧ (((True) ∧ True) ∧ (∃ t151 : Int × Int, Trip cfg (.loop (cpath (Try.f12.body.getD .skip) [1, 1, 1, 1, 1, 1, 0, 0, 0])) ⟨[.any, .any, .any, .any, .any, .v (.one (.sc (.bool (!(t1 == t2))))), .v (.one (.ptr 0 ⟨0, 0, 0, 0⟩)), .v (.one (.ptr 1 ⟨0, 0, 0, 0⟩)), .any, .any, .any, .any, .any, .any, .any, .any, .any, .any, .any, .any, .any, .any, .any, .any, .any, .any, .any, .any, .any, .any, .any, .any, .any, .any, .any, .any, .any, .any, .any, .any, .any, .any, .any, .any, .any, .any, .any, .any, .any, .any, .any, .any, .any, .any, .any, .any, .any, .any, .any, .any, .any, .any, .any, .any, .any, .any, .any, .any, .any, .any, .any, .any, .any, .any, .any, .any, .any, .any, .any, .any, .any, .any, .any, .any, .any, .any, .any, .any, .any, .any, .any, .any, .any, .any, .any, .any, .any, .any, .any, .any, .any, .any, .any, .any, .any, .any, .any, .any, .any, .any, .any, .any, .any, .any, .any, .any, .any, .any, .any, .any, .any, .any, .any, .any], [.ex false [.c (.sc (.bool t143.1)), .c (.sc (.int .u64 t143.2.1)), .c (.sc (.int .i64 (p2 t143))), .c (.sc (.bool (z3 t143)))] 44, .ex false [.c (.sc (.bool t144.1)), .c (.sc (.int .u64 t144.2.1)), .c (.sc (.int .i64 (p2 t144))), .c (.sc (.bool (z3 t144)))] 44], 0⟩ (fun e s => e = (.exit 0) ∧ s = ⟨[.any, .any, .any, .any, .any, .v (.one (.sc (.bool (!(t1 == t2))))), .v (.one (.ptr 0 ⟨0, 0, 0, 0⟩)), .v (.one (.ptr 1 ⟨0, 0, 0, 0⟩)), .any, .any, .any, .any, .any, .any, .any, .any, .any, .any, .any, .any, .any, .any, .any, .any, .any, .any, .any, .any, .any, .any, .any, .any, .any, .any, .any, .any, .any, .any, .any, .any, .any, .any, .any, .any, .any, .any, .any, .any, .any, .any, .any, .any, .any, .any, .any, .any, .any, .any, .any, .any, .any, .any, .any, .any, .any, .any, .any, .any, .any, .any, .any, .any, .any, .any, .any, .any, .any, .any, .any, .any, .any, .any, .any, .any, .any, .any, .any, .any, .any, .any, .any, .any, .any, .any, .any, .any, .any, .any, .any, .any, .any, .any, .any, .any, .any, .any, .any, .any, .any, .any, .any, .any, .any, .any, .any, .any, .any, .any, .any, .any, .any, .any, .any, .any], [.ex false [.c (.sc (.bool t143.1)), .c (.sc (.int .u64 t151.1)), .c (.sc (.int .i64 t151.2)), .c (.sc (.bool (z3 t143)))] 44, .ex false [.c (.sc (.bool t144.1)), .c (.sc (.int .u64 t144.2.1)), .c (.sc (.int .i64 (p2 t144))), .c (.sc (.bool (z3 t144)))] 44], 0⟩) ∧ (True ∧ (((True) ∧ True) ∧ (∃ t163 : Int × Int, Trip cfg (.loop (cpath (Try.f12.body.getD .skip) [1, 1, 1, 1, 1, 1, 1, 0, 0, 0])) ⟨[.any, .any, .any, .any, .any, .v (.one (.sc (.bool (!(t1 == t2))))), .v (.one (.ptr 0 ⟨0, 0, 0, 0⟩)), .v (.one (.ptr 1 ⟨0, 0, 0, 0⟩)), .any, .any, .any, .any, .any, .any, .any, .any, .any, .any, .any, .any, .any, .any, .any, .any, .any, .any, .any, .any, .any, .any, .any, .any, .any, .any, .any, .any, .any, .any, .any, .any, .any, .any, .any, .any, .any, .any, .any, .any, .any, .any, .any, .any, .any, .any, .any, .any, .any, .any, .any, .any, .any, .any, .any, .any, .any, .any, .any, .any, .any, .any, .any, .any, .any, .any, .any, .any, .any, .any, .any, .any, .any, .any, .any, .any, .any, .any, .any, .any, .any, .any, .any, .any, .any, .any, .any, .any, .any, .any, .any, .any, .any, .any, .any, .any, .any, .any, .any, .any, .any, .any, .any, .any, .any, .any, .any, .any, .any, .any, .any, .any, .any, .any, .any, .any], [.ex false [.c (.sc (.bool t143.1)), .c (.sc (.int .u64 t151.1)), .c (.sc (.int .i64 t151.2)), .c (.sc (.bool (z3 t143)))] 44, .ex false [.c (.sc (.bool t144.1)), .c (.sc (.int .u64 t144.2.1)), .c (.sc (.int .i64 (p2 t144))), .c (.sc (.bool (z3 t144)))] 44], 0⟩ (fun e s => e = (.exit 2) ∧ s = ⟨[.any, .any, .any, .any, .any, .v (.one (.sc (.bool (!(t1 == t2))))), .v (.one (.ptr 0 ⟨0, 0, 0, 0⟩)), .v (.one (.ptr 1 ⟨0, 0, 0, 0⟩)), .any, .any, .any, .any, .any, .any, .any, .any, .any, .any, .any, .any, .any, .any, .any, .any, .any, .any, .any, .any, .any, .any, .any, .any, .any, .any, .any, .any, .any, .any, .any, .any, .any, .any, .any, .any, .any, .any, .any, .any, .any, .any, .any, .any, .any, .any, .any, .any, .any, .any, .any, .any, .any, .any, .any, .any, .any, .any, .any, .any, .any, .any, .any, .any, .any, .any, .any, .any, .any, .any, .any, .any, .any, .any, .any, .any, .any, .any, .any, .any, .any, .any, .any, .any, .any, .any, .any, .any, .any, .any, .any, .any, .any, .any, .any, .any, .any, .any, .any, .any, .any, .any, .any, .any, .any, .any, .any, .any, .any, .any, .any, .any, .any, .any, .any, .any], [.ex false [.c (.sc (.bool t143.1)), .c (.sc (.int .u64 t151.1)), .c (.sc (.int .i64 t151.2)), .c (.sc (.bool (z3 t143)))] 44, .ex false [.c (.sc (.bool t144.1)), .c (.sc (.int .u64 t163.1)), .c (.sc (.int .i64 t163.2)), .c (.sc (.bool (z3 t144)))] 44], 0⟩) ∧ (True) ∧ (True) ∧ (t163.1 ≠ 0) ∧ (True) ∧ (True) ∧ (t163.1 ≠ 0) ∧ (True ∧ (True ∧ (((True) ∧ True) ∧ (∃ t179 : Int × Int, Trip cfg (.loop (cpath (Try.f12.body.getD .skip) [1, 1, 1, 1, 1, 1, 1, 1, 1, 0, 1, 0, 0])) ⟨[.any, .any, .any, .any, .any, .v (.one (.sc (.bool (!(t1 == t2))))), .v (.one (.ptr 0 ⟨0, 0, 0, 0⟩)), .v (.one (.ptr 1 ⟨0, 0, 0, 0⟩)), .v (.one (.sc (.int .u64 (IntKind.wrap .u64 (Int.tdiv t151.1 t163.1))))), .v (.one (.sc (.int .u64 (Int.tmod t151.1 t163.1)))), .v (.one (.sc (.int .i64 (0 : Int)))), .any, .any, .any, .any, .any, .any, .any, .any, .any, .any, .any, .any, .any, .any, .any, .any, .any, .any, .any, .any, .any, .any, .any, .any, .any, .any, .any, .any, .any, .any, .any, .any, .any, .any, .any, .any, .any, .any, .any, .any, .any, .any, .any, .any, .any, .any, .any, .any, .any, .any, .any, .any, .any, .any, .any, .any, .any, .any, .any, .any, .any, .any, .any, .any, .any, .any, .any, .any, .any, .any, .any, .any, .any, .any, .any, .any, .any, .any, .any, .any, .any, .any, .any, .any, .any, .any, .any, .any, .any, .any, .any, .any, .any, .any, .any, .any, .any, .any, .any, .any, .any, .any, .any, .any, .any, .any, .any, .any, .any, .any, .any, .any, .any], [.ex false [.c (.sc (.bool t143.1)), .c (.sc (.int .u64 t151.1)), .c (.sc (.int .i64 t151.2)), .c (.sc (.bool (z3 t143)))] 44, .ex false [.c (.sc (.bool t144.1)), .c (.sc (.int .u64 t163.1)), .c (.sc (.int .i64 t163.2)), .c (.sc (.bool (z3 t144)))] 44], 0⟩ (fun e s => e = (.exit 4) ∧ s = ⟨[.any, .any, .any, .any, .any, .v (.one (.sc (.bool (!(t1 == t2))))), .v (.one (.ptr 0 ⟨0, 0, 0, 0⟩)), .v (.one (.ptr 1 ⟨0, 0, 0, 0⟩)), .v (.one (.sc (.int .u64 t179.1))), .v (.one (.sc (.int .u64 t179.2))), .any, .any, .any, .any, .any, .any, .any, .any, .any, .any, .any, .any, .any, .any, .any, .any, .any, .any, .any, .any, .any, .any, .any, .any, .any, .any, .any, .any, .any, .any, .any, .any, .any, .any, .any, .any, .any, .any, .any, .any, .any, .any, .any, .any, .any, .any, .any, .any, .any, .any, .any, .any, .any, .any, .any, .any, .any, .any, .any, .any, .any, .any, .any, .any, .any, .any, .any, .any, .any, .any, .any, .any, .any, .any, .any, .any, .any, .any, .any, .any, .any, .any, .any, .any, .any, .any, .any, .any, .any, .any, .any, .any, .any, .any, .any, .any, .any, .any, .any, .any, .any, .any, .any, .any, .any, .any, .any, .any, .any, .any, .any, .any, .any, .any], [.ex false [.c (.sc (.bool t143.1)), .c (.sc (.int .u64 t151.1)), .c (.sc (.int .i64 t151.2)), .c (.sc (.bool (z3 t143)))] 44, .ex false [.c (.sc (.bool t144.1)), .c (.sc (.int .u64 t163.1)), .c (.sc (.int .i64 t163.2)), .c (.sc (.bool (z3 t144)))] 44], 0⟩) ∧ (True) ∧ (True) ∧ (True) ∧ (True) ∧ (True) ∧ (∃ t187 : Int, (Fun cfg 43 [.agg [.c (.sc (.bool (!(t1 == t2)))), .c (.sc (.int .u64 t179.1)), .c (.sc (.int .i64 (IntKind.wrap .i64 ((IntKind.wrap .i64 (t151.2 - t163.2)) - (60 : Int))))), .c (.sc (.bool (decide (t179.2 > (0 : Int)))))]] [] (halterref02_Round.R t187) [] ∧ True) ∧ (True ∧ ((True) ∧ ((True) ∧ True) ∧ (.v (.one (.sc (.int .u64 t187))) : Tm) = halterref02_Div.R r ∧ ([] : List Box) = [])))))))))))))))))))))) ∧ ((t137 == (0 : Int)) = true → ((t137 == (0 : Int)) = true ∧ ((t137 == (0 : Int)) = true ∧ ((t137 == (0 : Int)) = true ∧ (true = true ∧ (∃ t139 : Int, (Fun cfg 40 [.one (.sc (.bool (!(t1 == t2)))), .one (.sc (.int .u64 (0 : Int)))] [] (halterref02_signed.R t139) [] ∧ True) ∧ (True ∧ ((True) ∧ (True) ∧ (.v (.one (.sc (.int .u64 t139))) : Tm) = halterref02_Div.R r ∧ ([] : List Box) = []))))))))))))))))) ∧ ((t131 == (3 : Int)) = true → ((t131 == (3 : Int)) = true ∧ ((t131 == (3 : Int)) = true ∧ ((t131 == (3 : Int)) = true ∧ (true = true ∧ (∃ t133 : Int, (Fun cfg 40 [.one (.sc (.bool (!(t1 == t2)))), .one (.sc (.int .u64 (9218868437227405312 : Int)))] [] (halterref02_signed.R t133) [] ∧ True) ∧ (True ∧ ((True) ∧ (True) ∧ (.v (.one (.sc (.int .u64 t133))) : Tm) = halterref02_Div.R r ∧ ([] : List Box) = []))))))))))))))))))) ∧ ((t127 == (0 : Int)) = false → ((t127 == (0 : Int)) = false ∧ ((t127 == (0 : Int)) = false ∧ (false = false ∧ ((t127 == (0 : Int)) = false ∧ (false = false ∧ (false = false ∧ (∃ t188 : Int, (Fun cfg 21 [.one (.sc (.int .u64 a0))] [] (halterref02_Class.R t188) [] ∧ True) ∧ (True) ∧ (((t188 == (3 : Int)) = false → ((t188 == (3 : Int)) = false ∧ (∃ t191 : Int, (Fun cfg 21 [.one (.sc (.int .u64 a1))] [] (halterref02_Class.R t191) [] ∧ True) ∧ ((t188 == (3 : Int)) = false ∧ (True) ∧ ((t188 == (3 : Int)) = false ∧ (((t191 == (0 : Int)) = true → (∃ t193 : Int, (Fun cfg 40 [.one (.sc (.bool (!(t1 == t2)))), .one (.sc (.int .u64 (9218868437227405312 : Int)))] [] (halterref02_signed.R t193) [] ∧ True) ∧ (True ∧ ((True) ∧ (True) ∧ (.v (.one (.sc (.int .u64 t193))) : Tm) = halterref02_Div.R r ∧ ([] : List Box) = [])))) ∧ ((t191 == (0 : Int)) = false → (∃ t194 : Int, (Fun cfg 21 [.one (.sc (.int .u64 a0))] [] (halterref02_Class.R t194) [] ∧ True) ∧ (True) ∧ (((t194 == (0 : Int)) = false → ((t194 == (0 : Int)) = false ∧ (∃ t197 : Int, (Fun cfg 21 [.one (.sc (.int .u64 a1))] [] (halterref02_Class.R t197) [] ∧ True) ∧ ((t194 == (0 : Int)) = false ∧ (True) ∧ ((t194 == (0 : Int)) = false ∧ (((t197 == (3 : Int)) = true → (∃ t199 : Int, (Fun cfg 40 [.one (.sc (.bool (!(t1 == t2)))), .one (.sc (.int .u64 (0 : Int)))] [] (halterref02_signed.R t199) [] ∧ True) ∧ (True ∧ ((True) ∧ (True) ∧ (.v (.one (.sc (.int .u64 t199))) : Tm) = halterref02_Div.R r ∧ ([] : List Box) = [])))) ∧ ((t197 == (3 : Int)) = false → (∃ t200 : Bool × Int × Int × Bool, (Fun cfg 41 [.one (.sc (.int .u64 a0))] [] (halterref02_Open.R t200) [] ∧ True) ∧ (∃ t201 : Bool × Int × Int × Bool, (Fun cfg 41 [.one (.sc (.int .u64 a1))] [] (halterref02_Open.R t201) [] ∧ True) ∧ (True) ∧ (True) ∧ (True ∧ (((True) ∧ True) ∧ (∃ t208 : Int × Int, Trip cfg (.loop (cpath (Try.f12.body.getD .skip) [1, 1, 1, 1, 1, 1, 0, 0, 0])) ⟨[.any, .any, .any, .any, .any, .v (.one (.sc (.bool (!(t1 == t2))))), .v (.one (.ptr 0 ⟨0, 0, 0, 0⟩)), .v (.one (.ptr 1 ⟨0, 0, 0, 0⟩)), .any, .any, .any, .any, .any, .any, .any, .any, .any, .any, .any, .any, .any, .any, .any, .any, .any, .any, .any, .any, .any, .any, .any, .any, .any, .any, .any, .any, .any, .any, .any, .any, .any, .any, .any, .any, .any, .any, .any, .any, .any, .any, .any, .any, .any, .any, .any, .any, .any, .any, .any, .any, .any, .any, .any, .any, .any, .any, .any, .any, .any, .any, .any, .any, .any, .any, .any, .any, .any, .any, .any, .any, .any, .any, .any, .any, .any, .any, .any, .any, .any, .any, .any, .any, .any, .any, .any, .any, .any, .any, .any, .any, .any, .any, .any, .any, .any, .any, .any, .any, .any, .any, .any, .any, .any, .any, .any, .any, .any, .any, .any, .any, .any, .any, .any, .any], [.ex false [.c (.sc (.bool t200.1)), .c (.sc (.int .u64 t200.2.1)), .c (.sc (.int .i64 (p2 t200))), .c (.sc (.bool (z3 t200)))] 44, .ex false [.c (.sc (.bool t201.1)), .c (.sc (.int .u64 t201.2.1)), .c (.sc (.int .i64 (p2 t201))), .c (.sc (.bool (z3 t201)))] 44], 0⟩ (fun e s => e = (.exit 0) ∧ s = ⟨[.any, .any, .any, .any, .any, .v (.one (.sc (.bool (!(t1 == t2))))), .v (.one (.ptr 0 ⟨0, 0, 0, 0⟩)), .v (.one (.ptr 1 ⟨0, 0, 0, 0⟩)), .any, .any, .any, .any, .any, .any, .any, .any, .any, .any, .any, .any, .any, .any, .any, .any, .any, .any, .any, .any, .any, .any, .any, .any, .any, .any, .any, .any, .any, .any, .any, .any, .any, .any, .any, .any, .any, .any, .any, .any, .any, .any, .any, .any, .any, .any, .any, .any, .any, .any, .any, .any, .any, .any, .any, .any, .any, .any, .any, .any, .any, .any, .any, .any, .any, .any, .any, .any, .any, .any, .any, .any, .any, .any, .any, .any, .any, .any, .any, .any, .any, .any, .any, .any, .any, .any, .any, .any, .any, .any, .any, .any, .any, .any, .any, .any, .any, .any, .any, .any, .any, .any, .any, .any, .any, .any, .any, .any, .any, .any, .any, .any, .any, .any, .any, .any], [.ex false [.c (.sc (.bool t200.1)), .c (.sc (.int .u64 t208.1)), .c (.sc (.int .i64 t208.2)), .c (.sc (.bool (z3 t200)))] 44, .ex false [.c (.sc (.bool t201.1)), .c (.sc (.int .u64 t201.2.1)), .c (.sc (.int .i64 (p2 t201))), .c (.sc (.bool (z3 t201)))] 44], 0⟩) ∧ (True ∧ (((True) ∧ True) ∧ (∃ t220 : Int × Int, Trip cfg (.loop (cpath (Try.f12.body.getD .skip) [1, 1, 1, 1, 1, 1, 1, 0, 0, 0])) ⟨[.any, .any, .any, .any, .any, .v (.one (.sc (.bool (!(t1 == t2))))), .v (.one (.ptr 0 ⟨0, 0, 0, 0⟩)), .v (.one (.ptr 1 ⟨0, 0, 0, 0⟩)), .any, .any, .any, .any, .any, .any, .any, .any, .any, .any, .any, .any, .any, .any, .any, .any, .any, .any, .any, .any, .any, .any, .any, .any, .any, .any, .any, .any, .any, .any, .any, .any, .any, .any, .any, .any, .any, .any, .any, .any, .any, .any, .any, .any, .any, .any, .any, .any, .any, .any, .any, .any, .any, .any, .any, .any, .any, .any, .any, .any, .any, .any, .any, .any, .any, .any, .any, .any, .any, .any, .any, .any, .any, .any, .any, .any, .any, .any, .any, .any, .any, .any, .any, .any, .any, .any, .any, .any, .any, .any, .any, .any, .any, .any, .any, .any, .any, .any, .any, .any, .any, .any, .any, .any, .any, .any, .any, .any, .any, .any, .any, .any, .any, .any, .any, .any], [.ex false [.c (.sc (.bool t200.1)), .c (.sc (.int .u64 t208.1)), .c (.sc (.int .i64 t208.2)), .c (.sc (.bool (z3 t200)))] 44, .ex false [.c (.sc (.bool t201.1)), .c (.sc (.int .u64 t201.2.1)), .c (.sc (.int .i64 (p2 t201))), .c (.sc (.bool (z3 t201)))] 44], 0⟩ (fun e s => e = (.exit 2) ∧ s = ⟨[.any, .any, .any, .any, .any, .v (.one (.sc (.bool (!(t1 == t2))))), .v (.one (.ptr 0 ⟨0, 0, 0, 0⟩)), .v (.one (.ptr 1 ⟨0, 0, 0, 0⟩)), .any, .any, .any, .any, .any, .any, .any, .any, .any, .any, .any, .any, .any, .any, .any, .any, .any, .any, .any, .any, .any, .any, .any, .any, .any, .any, .any, .any, .any, .any, .any, .any, .any, .any, .any, .any, .any, .any, .any, .any, .any, .any, .any, .any, .any, .any, .any, .any, .any, .any, .any, .any, .any, .any, .any, .any, .any, .any, .any, .any, .any, .any, .any, .any, .any, .any, .any, .any, .any, .any, .any, .any, .any, .any, .any, .any, .any, .any, .any, .any, .any, .any, .any, .any, .any, .any, .any, .any, .any, .any, .any, .any, .any, .any, .any, .any, .any, .any, .any, .any, .any, .any, .any, .any, .any, .any, .any, .any, .any, .any, .any, .any, .any, .any, .any, .any], [.ex false [.c (.sc (.bool t200.1)), .c (.sc (.int .u64 t208.1)), .c (.sc (.int .i64 t208.2)), .c (.sc (.bool (z3 t200)))] 44, .ex false [.c (.sc (.bool t201.1)), .c (.sc (.int .u64 t220.1)), .c (.sc (.int .i64 t220.2)), .c (.sc (.bool (z3 t201)))] 44], 0⟩) ∧ (True) ∧ (True) ∧ (t220.1 ≠ 0) ∧ (True) ∧ (True) ∧ (t220.1 ≠ 0) ∧ (True ∧ (True ∧ (((True) ∧ True) ∧ (∃ t236 : Int × Int, Trip cfg (.loop (cpath (Try.f12.body.getD .skip) [1, 1, 1, 1, 1, 1, 1, 1, 1, 0, 1, 0, 0])) ⟨[.any, .any, .any, .any, .any, .v (.one (.sc (.bool (!(t1 == t2))))), .v (.one (.ptr 0 ⟨0, 0, 0, 0⟩)), .v (.one (.ptr 1 ⟨0, 0, 0, 0⟩)), .v (.one (.sc (.int .u64 (IntKind.wrap .u64 (Int.tdiv t208.1 t220.1))))), .v (.one (.sc (.int .u64 (Int.tmod t208.1 t220.1)))), .v (.one (.sc (.int .i64 (0 : Int)))), .any, .any, .any, .any, .any, .any, .any, .any, .any, .any, .any, .any, .any, .any, .any, .any, .any, .any, .any, .any, .any, .any, .any, .any, .any, .any, .any, .any, .any, .any, .any, .any, .any, .any, .any, .any, .any, .any, .any, .any, .any, .any, .any, .any, .any, .any, .any, .any, .any, .any, .any, .any, .any, .any, .any, .any, .any, .any, .any, .any, .any, .any, .any, .any, .any, .any, .any, .any, .any, .any, .any, .any, .any, .any, .any, .any, .any, .any, .any, .any, .any, .any, .any, .any, .any, .any, .any, .any, .any, .any, .any, .any, .any, .any, .any, .any, .any, .any, .any, .any, .any, .any, .any, .any, .any, .any, .any, .any, .any, .any, .any, .any, .any], [.ex false [.c (.sc (.bool t200.1)), .c (.sc (.int .u64 t208.1)), .c (.sc (.int .i64 t208.2)), .c (.sc (.bool (z3 t200)))] 44, .ex false [.c (.sc (.bool t201.1)), .c (.sc (.int .u64 t220.1)), .c (.sc (.int .i64 t220.2)), .c (.sc (.bool (z3 t201)))] 44], 0⟩ (fun e s => e = (.exit 4) ∧ s = ⟨[.any, .any, .any, .any, .any, .v (.one (.sc (.bool (!(t1 == t2))))), .v (.one (.ptr 0 ⟨0, 0, 0, 0⟩)), .v (.one (.ptr 1 ⟨0, 0, 0, 0⟩)), .v (.one (.sc (.int .u64 t236.1))), .v (.one (.sc (.int .u64 t236.2))), .any, .any, .any, .any, .any, .any, .any, .any, .any, .any, .any, .any, .any, .any, .any, .any, .any, .any, .any, .any, .any, .any, .any, .any, .any, .any, .any, .any, .any, .any, .any, .any, .any, .any, .any, .any, .any, .any, .any, .any, .any, .any, .any, .any, .any, .any, .any, .any, .any, .any, .any, .any, .any, .any, .any, .any, .any, .any, .any, .any, .any, .any, .any, .any, .any, .any, .any, .any, .any, .any, .any, .any, .any, .any, .any, .any, .any, .any, .any, .any, .any, .any, .any, .any, .any, .any, .any, .any, .any, .any, .any, .any, .any, .any, .any, .any, .any, .any, .any, .any, .any, .any, .any, .any, .any, .any, .any, .any, .any, .any, .any, .any, .any, .any], [.ex false [.c (.sc (.bool t200.1)), .c (.sc (.int .u64 t208.1)), .c (.sc (.int .i64 t208.2)), .c (.sc (.bool (z3 t200)))] 44, .ex false [.c (.sc (.bool t201.1)), .c (.sc (.int .u64 t220.1)), .c (.sc (.int .i64 t220.2)), .c (.sc (.bool (z3 t201)))] 44], 0⟩) ∧ (True) ∧ (True) ∧ (True) ∧ (True) ∧ (True) ∧ (∃ t244 : Int, (Fun cfg 43 [.agg [.c (.sc (.bool (!(t1 == t2)))), .c (.sc (.int .u64 t236.1)), .c (.sc (.int .i64 (IntKind.wrap .i64 ((IntKind.wrap .i64 (t208.2 - t220.2)) - (60 : Int))))), .c (.sc (.bool (decide (t236.2 > (0 : Int)))))]] [] (halterref02_Round.R t244) [] ∧ True) ∧ (True ∧ ((True) ∧ ((True) ∧ True) ∧ (.v (.one (.sc (.int .u64 t244))) : Tm) = halterref02_Div.R r ∧ ([] : List Box) = [])))))))))))))))))))))) ∧ ((t194 == (0 : Int)) = true → ((t194 == (0 : Int)) = true ∧ ((t194 == (0 : Int)) = true ∧ ((t194 == (0 : Int)) = true ∧ (true = true ∧ (∃ t196 : Int, (Fun cfg 40 [.one (.sc (.bool (!(t1 == t2)))), .one (.sc (.int .u64 (0 : Int)))] [] (halterref02_signed.R t196) [] ∧ True) ∧ (True ∧ ((True) ∧ (True) ∧ (.v (.one (.sc (.int .u64 t196))) : Tm) = halterref02_Div.R r ∧ ([] : List Box) = []))))))))))))))))) ∧ ((t188 == (3 : Int)) = true → ((t188 == (3 : Int)) = true ∧ ((t188 == (3 : Int)) = true ∧ ((t188 == (3 : Int)) = true ∧ (true = true ∧ (∃ t190 : Int, (Fun cfg 40 [.one (.sc (.bool (!(t1 == t2)))), .one (.sc (.int .u64 (9218868437227405312 : Int)))] [] (halterref02_signed.R t190) [] ∧ True) ∧ (True ∧ ((True) ∧ (True) ∧ (.v (.one (.sc (.int .u64 t190))) : Tm) = halterref02_Div.R r ∧ ([] : List Box) = []))))))))))))))))))))))))))))))))))) ∧ (t3 = true → (t3 = true ∧ (t3 = true ∧ (t3 = true ∧ (t3 = true ∧ (t3 = true ∧ (true = true ∧ (true = true ∧ (true = true ∧ (true = true ∧ (true = true ∧ (true = true ∧ (true = true ∧ (True ∧ (True ∧ ((True) ∧ (True) ∧ (.v (.one (.sc (.int .u64 (9221120237041090560 : Int)))) : Tm) = halterref02_Div.R r ∧ ([] : List Box) = []))))))))))))))))))))) (by kernel_rfl) ?_)
  obtain ⟨t1, ht1, h⟩ := of_bind h
  refine ⟨t1, ⟨halterref02_Neg.fun_ ht1, trivial⟩, ?_⟩
  obtain ⟨t2, ht2, h⟩ := of_bind h
  refine ⟨t2, ⟨halterref02_Neg.fun_ ht2, trivial⟩, ?_⟩
  refine ⟨trivial, ?_⟩
  obtain ⟨t3, ht3, h⟩ := of_bind h
  refine ⟨t3, ⟨halterref02_none.fun_ ht3, trivial⟩, ?_⟩
  refine ⟨fun b4 => ?_, fun b4 => ?_⟩
  · rw [if_neg (ff b4)] at h
    refine ⟨b4, ?_⟩
    obtain ⟨t5, ht5, h⟩ := of_bind h
    refine ⟨t5, ⟨halterref02_Class.fun_ ht5, trivial⟩, ?_⟩
    refine ⟨b4, ?_⟩
    refine ⟨trivial, ?_⟩
    refine ⟨b4, ?_⟩
    refine ⟨fun b6 => ?_, fun b6 => ?_⟩
    · rw [if_pos (beq_t b6)] at h
      refine ⟨b6, ?_⟩
      obtain ⟨t7, ht7, h⟩ := of_bind h
      refine ⟨t7, ⟨halterref02_Class.fun_ ht7, trivial⟩, ?_⟩
      refine ⟨b6, ?_⟩
      refine ⟨trivial, ?_⟩
      refine ⟨b4, ?_⟩
      refine ⟨b6, ?_⟩
      refine ⟨b4, ?_⟩
      refine ⟨fun b8 => ?_, fun b8 => ?_⟩
      · rw [if_neg (beq_f b8)] at h
        refine ⟨b8, ?_⟩
        obtain ⟨t9, ht9, h⟩ := of_bind h
        refine ⟨t9, ⟨halterref02_Class.fun_ ht9, trivial⟩, ?_⟩
        refine ⟨b8, ?_⟩
        refine ⟨trivial, ?_⟩
        refine ⟨b8, ?_⟩
        refine ⟨fun b10 => ?_, fun b10 => ?_⟩
        · rw [if_pos (beq_t b10)] at h
          refine ⟨b10, ?_⟩
          obtain ⟨t11, ht11, h⟩ := of_bind h
          refine ⟨t11, ⟨halterref02_Class.fun_ ht11, trivial⟩, ?_⟩
          refine ⟨b10, ?_⟩
          refine ⟨trivial, ?_⟩
          refine ⟨b8, ?_⟩
          refine ⟨b10, ?_⟩
          refine ⟨b8, ?_⟩
          refine ⟨fun b12 => ?_, fun b12 => ?_⟩
          · rw [if_pos (beq_t b12)] at h
            refine ⟨trivial, ?_⟩
            refine ⟨trivial, ?_⟩
            obtain rfl := Option.some.inj h
            exact ⟨trivial, trivial, rfl, rfl⟩
          · rw [if_neg (beq_f b12)] at h
            obtain ⟨t13, ht13, h⟩ := of_bind h
            refine ⟨t13, ⟨halterref02_Class.fun_ ht13, trivial⟩, ?_⟩
            refine ⟨trivial, ?_⟩
            refine ⟨fun b14 => ?_, fun b14 => ?_⟩
            · rw [if_neg (beq_f b14)] at h
              refine ⟨b14, ?_⟩
              obtain ⟨t16, ht16, h⟩ := of_bind h
              refine ⟨t16, ⟨halterref02_Class.fun_ ht16, trivial⟩, ?_⟩
              refine ⟨b14, ?_⟩
              refine ⟨trivial, ?_⟩
              refine ⟨b14, ?_⟩
              refine ⟨fun b17 => ?_, fun b17 => ?_⟩
              · rw [if_pos (beq_t b17)] at h
                obtain ⟨t18, ht18, h⟩ := of_bind h
                refine ⟨t18, ⟨halterref02_signed.fun_ ht18, trivial⟩, ?_⟩
                refine ⟨trivial, ?_⟩
                obtain rfl := Option.some.inj h
                exact ⟨trivial, trivial, rfl, rfl⟩
              · rw [if_neg (beq_f b17)] at h
                obtain ⟨t19, ht19, h⟩ := of_bind h
                refine ⟨t19, ⟨halterref02_Class.fun_ ht19, trivial⟩, ?_⟩
                refine ⟨trivial, ?_⟩
                refine ⟨fun b20 => ?_, fun b20 => ?_⟩
                · rw [if_neg (beq_f b20)] at h
                  refine ⟨b20, ?_⟩
                  obtain ⟨t22, ht22, h⟩ := of_bind h
                  refine ⟨t22, ⟨halterref02_Class.fun_ ht22, trivial⟩, ?_⟩
                  refine ⟨b20, ?_⟩
                  refine ⟨trivial, ?_⟩
                  refine ⟨b20, ?_⟩
                  refine ⟨fun b23 => ?_, fun b23 => ?_⟩
                  · rw [if_pos (beq_t b23)] at h
                    obtain ⟨t24, ht24, h⟩ := of_bind h
                    refine ⟨t24, ⟨halterref02_signed.fun_ ht24, trivial⟩, ?_⟩
                    refine ⟨trivial, ?_⟩
                    obtain rfl := Option.some.inj h
                    exact ⟨trivial, trivial, rfl, rfl⟩
                  · rw [if_neg (beq_f b23)] at h
                    obtain ⟨t25, ht25, h⟩ := of_bind h
                    refine ⟨t25, ⟨halterref02_Open.fun_ ht25, trivial⟩, ?_⟩
                    obtain ⟨t26, ht26, h⟩ := of_bind h
                    refine ⟨t26, ⟨halterref02_Open.fun_ ht26, trivial⟩, ?_⟩
                    refine ⟨trivial, ?_⟩
                    refine ⟨trivial, ?_⟩
                    refine ⟨trivial, ?_⟩
                    obtain ⟨t33, ht33, h⟩ := of_bind h
                    refine ⟨⟨trivial, trivial⟩, t33, Trip.loop FUEL (halterref02_Div.l0_ok t1 t2 t25 t26 FUEL t25.2.1 t25.2.2.1 t33 ht33), ?_⟩
                    refine ⟨trivial, ?_⟩
                    obtain ⟨t45, ht45, h⟩ := of_bind h
                    refine ⟨⟨trivial, trivial⟩, t45, Trip.loop FUEL (halterref02_Div.l1_ok t1 t2 t25 t26 t33 FUEL t26.2.1 t26.2.2.1 t45 ht45), ?_⟩
                    obtain ⟨g51, h⟩ := of_guard h
                    obtain ⟨g52, h⟩ := of_guard h
                    refine ⟨trivial, trivial, g51, trivial, trivial, g52, ?_⟩
                    refine ⟨trivial, ?_⟩
                    refine ⟨trivial, ?_⟩
                    obtain ⟨t61, ht61, h⟩ := of_bind h
                    refine ⟨⟨trivial, trivial⟩, t61, Trip.loop FUEL (halterref02_Div.l2_ok t1 t2 t25 t26 t33 t45 FUEL (IntKind.wrap .u64 (Int.tdiv t33.1 t45.1)) (Int.tmod t33.1 t45.1) (0 : Int) t61 ht61), ?_⟩
                    refine ⟨trivial, ?_⟩
                    refine ⟨trivial, ?_⟩
                    refine ⟨trivial, ?_⟩
                    refine ⟨trivial, ?_⟩
                    refine ⟨trivial, ?_⟩
                    obtain ⟨t69, ht69, h⟩ := of_bind h
                    refine ⟨t69, ⟨halterref02_Round.fun_ ht69, trivial⟩, ?_⟩
                    refine ⟨trivial, ?_⟩
                    obtain rfl := Option.some.inj h
                    exact ⟨trivial, ⟨trivial, trivial⟩, rfl, rfl⟩
                · rw [if_pos (beq_t b20)] at h
                  refine ⟨b20, ?_⟩
                  refine ⟨b20, ?_⟩
                  refine ⟨b20, ?_⟩
                  refine ⟨rfl, ?_⟩
                  obtain ⟨t21, ht21, h⟩ := of_bind h
                  refine ⟨t21, ⟨halterref02_signed.fun_ ht21, trivial⟩, ?_⟩
                  refine ⟨trivial, ?_⟩
                  obtain rfl := Option.some.inj h
                  exact ⟨trivial, trivial, rfl, rfl⟩
            · rw [if_pos (beq_t b14)] at h
              refine ⟨b14, ?_⟩
              refine ⟨b14, ?_⟩
              refine ⟨b14, ?_⟩
              refine ⟨rfl, ?_⟩
              obtain ⟨t15, ht15, h⟩ := of_bind h
              refine ⟨t15, ⟨halterref02_signed.fun_ ht15, trivial⟩, ?_⟩
              refine ⟨trivial, ?_⟩
              obtain rfl := Option.some.inj h
              exact ⟨trivial, trivial, rfl, rfl⟩
        · rw [if_neg (beq_f b10)] at h
          refine ⟨b10, ?_⟩
          refine ⟨b10, ?_⟩
          refine ⟨b8, ?_⟩
          refine ⟨b10, ?_⟩
          refine ⟨b8, ?_⟩
          refine ⟨rfl, ?_⟩
          obtain ⟨t70, ht70, h⟩ := of_bind h
          refine ⟨t70, ⟨halterref02_Class.fun_ ht70, trivial⟩, ?_⟩
          refine ⟨trivial, ?_⟩
          refine ⟨fun b71 => ?_, fun b71 => ?_⟩
          · rw [if_neg (beq_f b71)] at h
            refine ⟨b71, ?_⟩
            obtain ⟨t73, ht73, h⟩ := of_bind h
            refine ⟨t73, ⟨halterref02_Class.fun_ ht73, trivial⟩, ?_⟩
            refine ⟨b71, ?_⟩
            refine ⟨trivial, ?_⟩
            refine ⟨b71, ?_⟩
            refine ⟨fun b74 => ?_, fun b74 => ?_⟩
            · rw [if_pos (beq_t b74)] at h
              obtain ⟨t75, ht75, h⟩ := of_bind h
              refine ⟨t75, ⟨halterref02_signed.fun_ ht75, trivial⟩, ?_⟩
              refine ⟨trivial, ?_⟩
              obtain rfl := Option.some.inj h
              exact ⟨trivial, trivial, rfl, rfl⟩
            · rw [if_neg (beq_f b74)] at h
              obtain ⟨t76, ht76, h⟩ := of_bind h
              refine ⟨t76, ⟨halterref02_Class.fun_ ht76, trivial⟩, ?_⟩
              refine ⟨trivial, ?_⟩
              refine ⟨fun b77 => ?_, fun b77 => ?_⟩
              · rw [if_neg (beq_f b77)] at h
                refine ⟨b77, ?_⟩
                obtain ⟨t79, ht79, h⟩ := of_bind h
                refine ⟨t79, ⟨halterref02_Class.fun_ ht79, trivial⟩, ?_⟩
                refine ⟨b77, ?_⟩
                refine ⟨trivial, ?_⟩
                refine ⟨b77, ?_⟩
                refine ⟨fun b80 => ?_, fun b80 => ?_⟩
                · rw [if_pos (beq_t b80)] at h
                  obtain ⟨t81, ht81, h⟩ := of_bind h
                  refine ⟨t81, ⟨halterref02_signed.fun_ ht81, trivial⟩, ?_⟩
                  refine ⟨trivial, ?_⟩
                  obtain rfl := Option.some.inj h
                  exact ⟨trivial, trivial, rfl, rfl⟩
                · rw [if_neg (beq_f b80)] at h
                  obtain ⟨t82, ht82, h⟩ := of_bind h
                  refine ⟨t82, ⟨halterref02_Open.fun_ ht82, trivial⟩, ?_⟩
                  obtain ⟨t83, ht83, h⟩ := of_bind h
                  refine ⟨t83, ⟨halterref02_Open.fun_ ht83, trivial⟩, ?_⟩
                  refine ⟨trivial, ?_⟩
                  refine ⟨trivial, ?_⟩
                  refine ⟨trivial, ?_⟩
                  obtain ⟨t90, ht90, h⟩ := of_bind h
                  refine ⟨⟨trivial, trivial⟩, t90, Trip.loop FUEL (halterref02_Div.l3_ok t1 t2 t82 t83 FUEL t82.2.1 t82.2.2.1 t90 ht90), ?_⟩
                  refine ⟨trivial, ?_⟩
                  obtain ⟨t102, ht102, h⟩ := of_bind h
                  refine ⟨⟨trivial, trivial⟩, t102, Trip.loop FUEL (halterref02_Div.l4_ok t1 t2 t82 t83 t90 FUEL t83.2.1 t83.2.2.1 t102 ht102), ?_⟩
                  obtain ⟨g108, h⟩ := of_guard h
                  obtain ⟨g109, h⟩ := of_guard h
                  refine ⟨trivial, trivial, g108, trivial, trivial, g109, ?_⟩
                  refine ⟨trivial, ?_⟩
                  refine ⟨trivial, ?_⟩
                  obtain ⟨t118, ht118, h⟩ := of_bind h
                  refine ⟨⟨trivial, trivial⟩, t118, Trip.loop FUEL (halterref02_Div.l5_ok t1 t2 t82 t83 t90 t102 FUEL (IntKind.wrap .u64 (Int.tdiv t90.1 t102.1)) (Int.tmod t90.1 t102.1) (0 : Int) t118 ht118), ?_⟩
                  refine ⟨trivial, ?_⟩
                  refine ⟨trivial, ?_⟩
                  refine ⟨trivial, ?_⟩
                  refine ⟨trivial, ?_⟩
                  refine ⟨trivial, ?_⟩
                  obtain ⟨t126, ht126, h⟩ := of_bind h
                  refine ⟨t126, ⟨halterref02_Round.fun_ ht126, trivial⟩, ?_⟩
                  refine ⟨trivial, ?_⟩
                  obtain rfl := Option.some.inj h
                  exact ⟨trivial, ⟨trivial, trivial⟩, rfl, rfl⟩
              · rw [if_pos (beq_t b77)] at h
                refine ⟨b77, ?_⟩
                refine ⟨b77, ?_⟩
                refine ⟨b77, ?_⟩
                refine ⟨rfl, ?_⟩
                obtain ⟨t78, ht78, h⟩ := of_bind h
                refine ⟨t78, ⟨halterref02_signed.fun_ ht78, trivial⟩, ?_⟩
                refine ⟨trivial, ?_⟩
                obtain rfl := Option.some.inj h
                exact ⟨trivial, trivial, rfl, rfl⟩
          · rw [if_pos (beq_t b71)] at h
            refine ⟨b71, ?_⟩
            refine ⟨b71, ?_⟩
            refine ⟨b71, ?_⟩
            refine ⟨rfl, ?_⟩
            obtain ⟨t72, ht72, h⟩ := of_bind h
            refine ⟨t72, ⟨halterref02_signed.fun_ ht72, trivial⟩, ?_⟩
            refine ⟨trivial, ?_⟩
            obtain rfl := Option.some.inj h
            exact ⟨trivial, trivial, rfl, rfl⟩
      · rw [if_pos (beq_t b8)] at h
        refine ⟨b8, ?_⟩
        refine ⟨b8, ?_⟩
        refine ⟨b8, ?_⟩
        refine ⟨b8, ?_⟩
        refine ⟨b8, ?_⟩
        refine ⟨rfl, ?_⟩
        refine ⟨trivial, ?_⟩
        refine ⟨trivial, ?_⟩
        obtain rfl := Option.some.inj h
        exact ⟨trivial, trivial, rfl, rfl⟩
    · rw [if_neg (beq_f b6)] at h
      refine ⟨b6, ?_⟩
      refine ⟨b6, ?_⟩
      refine ⟨b4, ?_⟩
      refine ⟨b6, ?_⟩
      refine ⟨b4, ?_⟩
      refine ⟨rfl, ?_⟩
      refine ⟨rfl, ?_⟩
      obtain ⟨t127, ht127, h⟩ := of_bind h
      refine ⟨t127, ⟨halterref02_Class.fun_ ht127, trivial⟩, ?_⟩
      refine ⟨rfl, ?_⟩
      refine ⟨trivial, ?_⟩
      refine ⟨rfl, ?_⟩
      refine ⟨fun b128 => ?_, fun b128 => ?_⟩
      · rw [if_pos (beq_t b128)] at h
        refine ⟨b128, ?_⟩
        obtain ⟨t129, ht129, h⟩ := of_bind h
        refine ⟨t129, ⟨halterref02_Class.fun_ ht129, trivial⟩, ?_⟩
        refine ⟨b128, ?_⟩
        refine ⟨trivial, ?_⟩
        refine ⟨rfl, ?_⟩
        refine ⟨b128, ?_⟩
        refine ⟨rfl, ?_⟩
        refine ⟨fun b130 => ?_, fun b130 => ?_⟩
        · rw [if_pos (beq_t b130)] at h
          refine ⟨trivial, ?_⟩
          refine ⟨trivial, ?_⟩
          obtain rfl := Option.some.inj h
          exact ⟨trivial, trivial, rfl, rfl⟩
        · rw [if_neg (beq_f b130)] at h
          obtain ⟨t131, ht131, h⟩ := of_bind h
          refine ⟨t131, ⟨halterref02_Class.fun_ ht131, trivial⟩, ?_⟩
          refine ⟨trivial, ?_⟩
          refine ⟨fun b132 => ?_, fun b132 => ?_⟩
          · rw [if_neg (beq_f b132)] at h
            refine ⟨b132, ?_⟩
            obtain ⟨t134, ht134, h⟩ := of_bind h
            refine ⟨t134, ⟨halterref02_Class.fun_ ht134, trivial⟩, ?_⟩
            refine ⟨b132, ?_⟩
            refine ⟨trivial, ?_⟩
            refine ⟨b132, ?_⟩
            refine ⟨fun b135 => ?_, fun b135 => ?_⟩
            · rw [if_pos (beq_t b135)] at h
              obtain ⟨t136, ht136, h⟩ := of_bind h
              refine ⟨t136, ⟨halterref02_signed.fun_ ht136, trivial⟩, ?_⟩
              refine ⟨trivial, ?_⟩
              obtain rfl := Option.some.inj h
              exact ⟨trivial, trivial, rfl, rfl⟩
            · rw [if_neg (beq_f b135)] at h
              obtain ⟨t137, ht137, h⟩ := of_bind h
              refine ⟨t137, ⟨halterref02_Class.fun_ ht137, trivial⟩, ?_⟩
              refine ⟨trivial, ?_⟩
              refine ⟨fun b138 => ?_, fun b138 => ?_⟩
              · rw [if_neg (beq_f b138)] at h
                refine ⟨b138, ?_⟩
                obtain ⟨t140, ht140, h⟩ := of_bind h
                refine ⟨t140, ⟨halterref02_Class.fun_ ht140, trivial⟩, ?_⟩
                refine ⟨b138, ?_⟩
                refine ⟨trivial, ?_⟩
                refine ⟨b138, ?_⟩
                refine ⟨fun b141 => ?_, fun b141 => ?_⟩
                · rw [if_pos (beq_t b141)] at h
                  obtain ⟨t142, ht142, h⟩ := of_bind h
                  refine ⟨t142, ⟨halterref02_signed.fun_ ht142, trivial⟩, ?_⟩
                  refine ⟨trivial, ?_⟩
                  obtain rfl := Option.some.inj h
                  exact ⟨trivial, trivial, rfl, rfl⟩
                · rw [if_neg (beq_f b141)] at h
                  obtain ⟨t143, ht143, h⟩ := of_bind h
                  refine ⟨t143, ⟨halterref02_Open.fun_ ht143, trivial⟩, ?_⟩
                  obtain ⟨t144, ht144, h⟩ := of_bind h
                  refine ⟨t144, ⟨halterref02_Open.fun_ ht144, trivial⟩, ?_⟩
                  refine ⟨trivial, ?_⟩
                  refine ⟨trivial, ?_⟩
                  refine ⟨trivial, ?_⟩
                  obtain ⟨t151, ht151, h⟩ := of_bind h
                  refine ⟨⟨trivial, trivial⟩, t151, Trip.loop FUEL (halterref02_Div.l6_ok t1 t2 t143 t144 FUEL t143.2.1 t143.2.2.1 t151 ht151), ?_⟩
                  refine ⟨trivial, ?_⟩
                  obtain ⟨t163, ht163, h⟩ := of_bind h
                  refine ⟨⟨trivial, trivial⟩, t163, Trip.loop FUEL (halterref02_Div.l7_ok t1 t2 t143 t144 t151 FUEL t144.2.1 t144.2.2.1 t163 ht163), ?_⟩
                  obtain ⟨g169, h⟩ := of_guard h
                  obtain ⟨g170, h⟩ := of_guard h
                  refine ⟨trivial, trivial, g169, trivial, trivial, g170, ?_⟩
                  refine ⟨trivial, ?_⟩
                  refine ⟨trivial, ?_⟩
                  obtain ⟨t179, ht179, h⟩ := of_bind h
                  refine ⟨⟨trivial, trivial⟩, t179, Trip.loop FUEL (halterref02_Div.l8_ok t1 t2 t143 t144 t151 t163 FUEL (IntKind.wrap .u64 (Int.tdiv t151.1 t163.1)) (Int.tmod t151.1 t163.1) (0 : Int) t179 ht179), ?_⟩
                  refine ⟨trivial, ?_⟩
                  refine ⟨trivial, ?_⟩
                  refine ⟨trivial, ?_⟩
                  refine ⟨trivial, ?_⟩
                  refine ⟨trivial, ?_⟩
                  obtain ⟨t187, ht187, h⟩ := of_bind h
                  refine ⟨t187, ⟨halterref02_Round.fun_ ht187, trivial⟩, ?_⟩
                  refine ⟨trivial, ?_⟩
                  obtain rfl := Option.some.inj h
                  exact ⟨trivial, ⟨trivial, trivial⟩, rfl, rfl⟩
              · rw [if_pos (beq_t b138)] at h
                refine ⟨b138, ?_⟩
                refine ⟨b138, ?_⟩
                refine ⟨b138, ?_⟩
                refine ⟨rfl, ?_⟩
                obtain ⟨t139, ht139, h⟩ := of_bind h
                refine ⟨t139, ⟨halterref02_signed.fun_ ht139, trivial⟩, ?_⟩
                refine ⟨trivial, ?_⟩
                obtain rfl := Option.some.inj h
                exact ⟨trivial, trivial, rfl, rfl⟩
          · rw [if_pos (beq_t b132)] at h
            refine ⟨b132, ?_⟩
            refine ⟨b132, ?_⟩
            refine ⟨b132, ?_⟩
            refine ⟨rfl, ?_⟩
            obtain ⟨t133, ht133, h⟩ := of_bind h
            refine ⟨t133, ⟨halterref02_signed.fun_ ht133, trivial⟩, ?_⟩
            refine ⟨trivial, ?_⟩
            obtain rfl := Option.some.inj h
            exact ⟨trivial, trivial, rfl, rfl⟩
      · rw [if_neg (beq_f b128)] at h
        refine ⟨b128, ?_⟩
        refine ⟨b128, ?_⟩
        refine ⟨rfl, ?_⟩
        refine ⟨b128, ?_⟩
        refine ⟨rfl, ?_⟩
        refine ⟨rfl, ?_⟩
        obtain ⟨t188, ht188, h⟩ := of_bind h
        refine ⟨t188, ⟨halterref02_Class.fun_ ht188, trivial⟩, ?_⟩
        refine ⟨trivial, ?_⟩
        refine ⟨fun b189 => ?_, fun b189 => ?_⟩
        · rw [if_neg (beq_f b189)] at h
          refine ⟨b189, ?_⟩
          obtain ⟨t191, ht191, h⟩ := of_bind h
          refine ⟨t191, ⟨halterref02_Class.fun_ ht191, trivial⟩, ?_⟩
          refine ⟨b189, ?_⟩
          refine ⟨trivial, ?_⟩
          refine ⟨b189, ?_⟩
          refine ⟨fun b192 => ?_, fun b192 => ?_⟩
          · rw [if_pos (beq_t b192)] at h
            obtain ⟨t193, ht193, h⟩ := of_bind h
            refine ⟨t193, ⟨halterref02_signed.fun_ ht193, trivial⟩, ?_⟩
            refine ⟨trivial, ?_⟩
            obtain rfl := Option.some.inj h
            exact ⟨trivial, trivial, rfl, rfl⟩
          · rw [if_neg (beq_f b192)] at h
            obtain ⟨t194, ht194, h⟩ := of_bind h
            refine ⟨t194, ⟨halterref02_Class.fun_ ht194, trivial⟩, ?_⟩
            refine ⟨trivial, ?_⟩
            refine ⟨fun b195 => ?_, fun b195 => ?_⟩
            · rw [if_neg (beq_f b195)] at h
              refine ⟨b195, ?_⟩
              obtain ⟨t197, ht197, h⟩ := of_bind h
              refine ⟨t197, ⟨halterref02_Class.fun_ ht197, trivial⟩, ?_⟩
              refine ⟨b195, ?_⟩
              refine ⟨trivial, ?_⟩
              refine ⟨b195, ?_⟩
              refine ⟨fun b198 => ?_, fun b198 => ?_⟩
              · rw [if_pos (beq_t b198)] at h
                obtain ⟨t199, ht199, h⟩ := of_bind h
                refine ⟨t199, ⟨halterref02_signed.fun_ ht199, trivial⟩, ?_⟩
                refine ⟨trivial, ?_⟩
                obtain rfl := Option.some.inj h
                exact ⟨trivial, trivial, rfl, rfl⟩
              · rw [if_neg (beq_f b198)] at h
                obtain ⟨t200, ht200, h⟩ := of_bind h
                refine ⟨t200, ⟨halterref02_Open.fun_ ht200, trivial⟩, ?_⟩
                obtain ⟨t201, ht201, h⟩ := of_bind h
                refine ⟨t201, ⟨halterref02_Open.fun_ ht201, trivial⟩, ?_⟩
                refine ⟨trivial, ?_⟩
                refine ⟨trivial, ?_⟩
                refine ⟨trivial, ?_⟩
                obtain ⟨t208, ht208, h⟩ := of_bind h
                refine ⟨⟨trivial, trivial⟩, t208, Trip.loop FUEL (halterref02_Div.l9_ok t1 t2 t200 t201 FUEL t200.2.1 t200.2.2.1 t208 ht208), ?_⟩
                refine ⟨trivial, ?_⟩
                obtain ⟨t220, ht220, h⟩ := of_bind h
                refine ⟨⟨trivial, trivial⟩, t220, Trip.loop FUEL (halterref02_Div.l10_ok t1 t2 t200 t201 t208 FUEL t201.2.1 t201.2.2.1 t220 ht220), ?_⟩
                obtain ⟨g226, h⟩ := of_guard h
                obtain ⟨g227, h⟩ := of_guard h
                refine ⟨trivial, trivial, g226, trivial, trivial, g227, ?_⟩
                refine ⟨trivial, ?_⟩
                refine ⟨trivial, ?_⟩
                obtain ⟨t236, ht236, h⟩ := of_bind h
                refine ⟨⟨trivial, trivial⟩, t236, Trip.loop FUEL (halterref02_Div.l11_ok t1 t2 t200 t201 t208 t220 FUEL (IntKind.wrap .u64 (Int.tdiv t208.1 t220.1)) (Int.tmod t208.1 t220.1) (0 : Int) t236 ht236), ?_⟩
                refine ⟨trivial, ?_⟩
                refine ⟨trivial, ?_⟩
                refine ⟨trivial, ?_⟩
                refine ⟨trivial, ?_⟩
                refine ⟨trivial, ?_⟩
                obtain ⟨t244, ht244, h⟩ := of_bind h
                refine ⟨t244, ⟨halterref02_Round.fun_ ht244, trivial⟩, ?_⟩
                refine ⟨trivial, ?_⟩
                obtain rfl := Option.some.inj h
                exact ⟨trivial, ⟨trivial, trivial⟩, rfl, rfl⟩
            · rw [if_pos (beq_t b195)] at h
              refine ⟨b195, ?_⟩
              refine ⟨b195, ?_⟩
              refine ⟨b195, ?_⟩
              refine ⟨rfl, ?_⟩
              obtain ⟨t196, ht196, h⟩ := of_bind h
              refine ⟨t196, ⟨halterref02_signed.fun_ ht196, trivial⟩, ?_⟩
              refine ⟨trivial, ?_⟩
              obtain rfl := Option.some.inj h
              exact ⟨trivial, trivial, rfl, rfl⟩
        · rw [if_pos (beq_t b189)] at h
          refine ⟨b189, ?_⟩
          refine ⟨b189, ?_⟩
          refine ⟨b189, ?_⟩
          refine ⟨rfl, ?_⟩
          obtain ⟨t190, ht190, h⟩ := of_bind h
          refine ⟨t190, ⟨halterref02_signed.fun_ ht190, trivial⟩, ?_⟩
          refine ⟨trivial, ?_⟩
          obtain rfl := Option.some.inj h
          exact ⟨trivial, trivial, rfl, rfl⟩
  · rw [if_pos b4] at h
    refine ⟨b4, ?_⟩
    refine ⟨b4, ?_⟩
    refine ⟨b4, ?_⟩
    refine ⟨b4, ?_⟩
    refine ⟨b4, ?_⟩
    refine ⟨rfl, ?_⟩
    refine ⟨rfl, ?_⟩
    refine ⟨rfl, ?_⟩
    refine ⟨rfl, ?_⟩
    refine ⟨rfl, ?_⟩
    refine ⟨rfl, ?_⟩
    refine ⟨rfl, ?_⟩
    refine ⟨trivial, ?_⟩
    refine ⟨trivial, ?_⟩
    obtain rfl := Option.some.inj h
    exact ⟨trivial, trivial, rfl, rfl⟩
/-! halter/halterref02.Sqrt -/
def halterref02_Sqrt.c0 (x34 : Int) (x32 : Int) (x33 : Int) : Bool := (decide ((IntKind.wrap .u64 ((IntKind.wrap .u64 ((4 : Int) * x34)) + (Int.tmod (IntKind.wrap .u64 (Int.tdiv x32 (4503599627370496 : Int))) (4 : Int)))) ≥ (IntKind.wrap .u64 ((IntKind.wrap .u64 ((2 : Int) * (IntKind.wrap .u64 ((2 : Int) * x33)))) + (1 : Int)))))
def halterref02_Sqrt.c1 (x34 : Int) (x33 : Int) : Bool := (decide ((IntKind.wrap .u64 ((IntKind.wrap .u64 ((4 : Int) * x34)) + (0 : Int))) ≥ (IntKind.wrap .u64 ((IntKind.wrap .u64 ((2 : Int) * (IntKind.wrap .u64 ((2 : Int) * x33)))) + (1 : Int)))))
def halterref02_Sqrt.l0 (t9 : Bool × Int × Int × Bool) : Nat → Int → Int → Option (Int × Int)
  | 0, _, _ => none
  | n + 1, x12, x13 =>
    if x12 < (4503599627370496 : Int) then
      halterref02_Sqrt.l0 t9 n (IntKind.wrap .u64 ((2 : Int) * x12)) (IntKind.wrap .i64 (x13 - (1 : Int)))
    else
      if ¬ (Int.tmod x13 (2 : Int)) = (0 : Int) then
        halterref02_Sqrt.l0 t9 n (IntKind.wrap .u64 ((2 : Int) * x12)) (IntKind.wrap .i64 (x13 - (1 : Int)))
      else
        some (x12, x13)
def halterref02_Sqrt.l0_S (t9 : Bool × Int × Int × Bool) (x12 : Int) (x13 : Int) : St := ⟨[.any, .any, .any, .v (.one (.ptr 0 ⟨0, 0, 0, 0⟩)), .any, .any, .any, .any, .any, .any, .any, .any, .any, .any, .any, .any, .any, .any, .any, .any, .any, .any, .any, .any, .any, .any, .any, .any, .any, .any, .any, .any, .any, .any, .any, .any, .any, .any, .any, .any, .any, .any, .any, .any, .any, .any, .any, .any, .any, .any, .any, .any, .any, .any, .any, .any, .any, .any, .any, .any, .any, .any, .any, .any, .any, .any, .any, .any, .any, .any, .any, .any, .any, .any, .any, .any, .any, .any, .any, .any, .any, .any, .any, .any], [.ex false [.c (.sc (.bool t9.1)), .c (.sc (.int .u64 x12)), .c (.sc (.int .i64 x13)), .c (.sc (.bool t9.2.2.2))] 44], 0⟩
def halterref02_Sqrt.l0_Q (t9 : Bool × Int × Int × Bool) (t : Int × Int) : Exit → St → Prop := fun e s => e = (.exit 0) ∧ s = ⟨[.any, .any, .any, .v (.one (.ptr 0 ⟨0, 0, 0, 0⟩)), .any, .any, .any, .any, .any, .any, .any, .any, .any, .any, .any, .any, .any, .any, .any, .any, .any, .any, .any, .any, .any, .any, .any, .any, .any, .any, .any, .any, .any, .any, .any, .any, .any, .any, .any, .any, .any, .any, .any, .any, .any, .any, .any, .any, .any, .any, .any, .any, .any, .any, .any, .any, .any, .any, .any, .any, .any, .any, .any, .any, .any, .any, .any, .any, .any, .any, .any, .any, .any, .any, .any, .any, .any, .any, .any, .any, .any, .any, .any, .any], [.ex false [.c (.sc (.bool t9.1)), .c (.sc (.int .u64 t.1)), .c (.sc (.int .i64 t.2)), .c (.sc (.bool t9.2.2.2))] 44], 0⟩
theorem halterref02_Sqrt.l0_ok (t9 : Bool × Int × Int × Bool) : ∀ (n : Nat) (x12 : Int) (x13 : Int) (r : Int × Int), halterref02_Sqrt.l0 t9 n x12 x13 = some r → TripN cfg (cpath (Try.f14.body.getD .skip) [1, 1, 1, 1, 1, 0, 0, 0]) n (halterref02_Sqrt.l0_S t9 x12 x13) (halterref02_Sqrt.l0_Q t9 r) := by
  intro n
  induction n with
  | zero => intro x12 x13 r h; cases h
  | succ n ih =>
    intro x12 x13 r h
    rw [halterref02_Sqrt.l0] at h
    refine TripN.of_run cfg_ok (k := (.br (.one true (.one true (.one true (.one true (.one true (.adj [] (.adj [] (.adj [] (.adj [.keep [3], .drop 1] .nil))))))))) (.one false (.one false (.one false (.one false (.br (.adj [] (.adj [] (.adj [] (.adj [.keep [3], .drop 1] .nil)))) (.adj [.keep [3], .drop 1] .nil)))))))) (to_goal (q := (True) ∧ (True) ∧ (((decide (x12 < (4503599627370496 : Int))) = false → ((decide (x12 < (4503599627370496 : Int))) = false ∧ (True) ∧ ((decide (x12 < (4503599627370496 : Int))) = false ∧ ((2 : Int) ≠ 0) ∧ ((decide (x12 < (4503599627370496 : Int))) = false ∧ (True) ∧ ((decide (x12 < (4503599627370496 : Int))) = false ∧ ((((Int.tmod x13 (2 : Int)) != (0 : Int)) = true → (True ∧ (True ∧ (True ∧ (True) ∧ (True) ∧ (True) ∧ (True) ∧ (True) ∧ (True) ∧ (((True) ∧ (True) ∧ True) ∧ TripN cfg (cpath (Try.f14.body.getD .skip) [1, 1, 1, 1, 1, 0, 0, 0]) n (halterref02_Sqrt.l0_S t9 (IntKind.wrap .u64 ((2 : Int) * x12)) (IntKind.wrap .i64 (x13 - (1 : Int)))) (halterref02_Sqrt.l0_Q t9 r)))))) ∧ (((Int.tmod x13 (2 : Int)) != (0 : Int)) = false → (((True) ∧ (True) ∧ True) ∧ halterref02_Sqrt.l0_Q t9 r (.exit 0) ⟨[.any, .any, .any, .v (.one (.ptr 0 ⟨0, 0, 0, 0⟩)), .any, .any, .any, .any, .any, .any, .any, .any, .any, .any, .any, .any, .any, .any, .any, .any, .any, .any, .any, .any, .any, .any, .any, .any, .any, .any, .any, .any, .any, .any, .any, .any, .any, .any, .any, .any, .any, .any, .any, .any, .any, .any, .any, .any, .any, .any, .any, .any, .any, .any, .any, .any, .any, .any, .any, .any, .any, .any, .any, .any, .any, .any, .any, .any, .any, .any, .any, .any, .any, .any, .any, .any, .any, .any, .any, .any, .any, .any, .any, .any], [.ex false [.c (.sc (.bool t9.1)), .c (.sc (.int .u64 x12)), .c (.sc (.int .i64 x13)), .c (.sc (.bool (z3 t9)))] 44], 0⟩)))))))) ∧ ((decide (x12 < (4503599627370496 : Int))) = true → ((decide (x12 < (4503599627370496 : Int))) = true ∧ ((decide (x12 < (4503599627370496 : Int))) = true ∧ ((decide (x12 < (4503599627370496 : Int))) = true ∧ ((decide (x12 < (4503599627370496 : Int))) = true ∧ (true = true ∧ (True ∧ (True ∧ (True ∧ (True) ∧ (True) ∧ (True) ∧ (True) ∧ (True) ∧ (True) ∧ (((True) ∧ (True) ∧ True) ∧ TripN cfg (cpath (Try.f14.body.getD .skip) [1, 1, 1, 1, 1, 0, 0, 0]) n (halterref02_Sqrt.l0_S t9 (IntKind.wrap .u64 ((2 : Int) * x12)) (IntKind.wrap .i64 (x13 - (1 : Int)))) (halterref02_Sqrt.l0_Q t9 r))))))))))))) (by kernel_rfl) ?_)
    refine ⟨trivial, ?_⟩
    refine ⟨trivial, ?_⟩
    refine ⟨fun b19 => ?_, fun b19 => ?_⟩
    · rw [if_neg (of_decide_eq_false b19)] at h
      refine ⟨b19, ?_⟩
      refine ⟨trivial, ?_⟩
      refine ⟨b19, ?_⟩
      refine ⟨(by decide), ?_⟩
      refine ⟨b19, ?_⟩
      refine ⟨trivial, ?_⟩
      refine ⟨b19, ?_⟩
      refine ⟨fun b20 => ?_, fun b20 => ?_⟩
      · rw [if_pos (bne_t b20)] at h
        refine ⟨trivial, ?_⟩
        refine ⟨trivial, ?_⟩
        refine ⟨trivial, ?_⟩
        refine ⟨trivial, ?_⟩
        refine ⟨trivial, ?_⟩
        refine ⟨trivial, ?_⟩
        refine ⟨trivial, ?_⟩
        refine ⟨trivial, ?_⟩
        refine ⟨trivial, ?_⟩
        exact ⟨⟨trivial, trivial, trivial⟩, ih (IntKind.wrap .u64 ((2 : Int) * x12)) (IntKind.wrap .i64 (x13 - (1 : Int))) r h⟩
      · rw [if_neg (not_not_intro (bne_f b20))] at h
        obtain rfl := Option.some.inj h
        exact ⟨⟨trivial, trivial, trivial⟩, rfl, rfl⟩
    · rw [if_pos (of_decide_eq_true b19)] at h
      refine ⟨b19, ?_⟩
      refine ⟨b19, ?_⟩
      refine ⟨b19, ?_⟩
      refine ⟨b19, ?_⟩
      refine ⟨rfl, ?_⟩
      refine ⟨trivial, ?_⟩
      refine ⟨trivial, ?_⟩
      refine ⟨trivial, ?_⟩
      refine ⟨trivial, ?_⟩
      refine ⟨trivial, ?_⟩
      refine ⟨trivial, ?_⟩
      refine ⟨trivial, ?_⟩
      refine ⟨trivial, ?_⟩
      refine ⟨trivial, ?_⟩
      exact ⟨⟨trivial, trivial, trivial⟩, ih (IntKind.wrap .u64 ((2 : Int) * x12)) (IntKind.wrap .i64 (x13 - (1 : Int))) r h⟩
def halterref02_Sqrt.l1 (t9 : Bool × Int × Int × Bool) (t18 : Int × Int) : Nat → Int → Int → Int → Int → Option (Int × Int × Int)
  | 0, _, _, _, _ => none
  | n + 1, x32, x33, x34, x35 =>
    if x35 < (57 : Int) then
      if x35 < (27 : Int) then
        if (IntKind.wrap .u64 ((IntKind.wrap .u64 ((4 : Int) * x34)) + (Int.tmod (IntKind.wrap .u64 (Int.tdiv x32 (4503599627370496 : Int))) (4 : Int)))) ≥ (IntKind.wrap .u64 ((IntKind.wrap .u64 ((2 : Int) * (IntKind.wrap .u64 ((2 : Int) * x33)))) + (1 : Int))) then
          halterref02_Sqrt.l1 t9 t18 n (IntKind.wrap .u64 ((4 : Int) * (Int.tmod x32 (4503599627370496 : Int)))) (IntKind.wrap .u64 ((IntKind.wrap .u64 ((2 : Int) * x33)) + (1 : Int))) (IntKind.wrap .u64 ((IntKind.wrap .u64 ((IntKind.wrap .u64 ((IntKind.wrap .u64 ((4 : Int) * x34)) + (Int.tmod (IntKind.wrap .u64 (Int.tdiv x32 (4503599627370496 : Int))) (4 : Int)))) - (IntKind.wrap .u64 ((2 : Int) * (IntKind.wrap .u64 ((2 : Int) * x33)))))) - (1 : Int))) (IntKind.wrap .i64 (x35 + (1 : Int)))
        else
          halterref02_Sqrt.l1 t9 t18 n (IntKind.wrap .u64 ((4 : Int) * (Int.tmod x32 (4503599627370496 : Int)))) (IntKind.wrap .u64 ((2 : Int) * x33)) (IntKind.wrap .u64 ((IntKind.wrap .u64 ((4 : Int) * x34)) + (Int.tmod (IntKind.wrap .u64 (Int.tdiv x32 (4503599627370496 : Int))) (4 : Int)))) (IntKind.wrap .i64 (x35 + (1 : Int)))
      else
        if (IntKind.wrap .u64 ((IntKind.wrap .u64 ((4 : Int) * x34)) + (0 : Int))) ≥ (IntKind.wrap .u64 ((IntKind.wrap .u64 ((2 : Int) * (IntKind.wrap .u64 ((2 : Int) * x33)))) + (1 : Int))) then
          halterref02_Sqrt.l1 t9 t18 n x32 (IntKind.wrap .u64 ((IntKind.wrap .u64 ((2 : Int) * x33)) + (1 : Int))) (IntKind.wrap .u64 ((IntKind.wrap .u64 ((IntKind.wrap .u64 ((IntKind.wrap .u64 ((4 : Int) * x34)) + (0 : Int))) - (IntKind.wrap .u64 ((2 : Int) * (IntKind.wrap .u64 ((2 : Int) * x33)))))) - (1 : Int))) (IntKind.wrap .i64 (x35 + (1 : Int)))
        else
          halterref02_Sqrt.l1 t9 t18 n x32 (IntKind.wrap .u64 ((2 : Int) * x33)) (IntKind.wrap .u64 ((IntKind.wrap .u64 ((4 : Int) * x34)) + (0 : Int))) (IntKind.wrap .i64 (x35 + (1 : Int)))
    else
      some (x32, x33, x34)
def halterref02_Sqrt.l1_S (t9 : Bool × Int × Int × Bool) (t18 : Int × Int) (x32 : Int) (x33 : Int) (x34 : Int) (x35 : Int) : St := ⟨[.any, .any, .any, .v (.one (.ptr 0 ⟨0, 0, 0, 0⟩)), .v (.one (.sc (.int .u64 x33))), .v (.one (.sc (.int .u64 x34))), .v (.one (.sc (.int .i64 x35))), .any, .any, .any, .any, .any, .any, .any, .any, .any, .any, .any, .any, .any, .any, .any, .any, .any, .any, .any, .any, .any, .any, .any, .any, .any, .any, .any, .any, .any, .any, .any, .any, .any, .any, .any, .any, .any, .any, .any, .any, .any, .any, .any, .any, .any, .any, .any, .any, .any, .any, .any, .any, .any, .any, .any, .any, .any, .any, .any, .any, .any, .any, .any, .any, .any, .any, .any, .any, .any, .any, .any, .any, .any, .any, .any, .any, .any], [.ex false [.c (.sc (.bool t9.1)), .c (.sc (.int .u64 x32)), .c (.sc (.int .i64 t18.2)), .c (.sc (.bool t9.2.2.2))] 44], 0⟩
def halterref02_Sqrt.l1_Q (t9 : Bool × Int × Int × Bool) (t18 : Int × Int) (t : Int × Int × Int) : Exit → St → Prop := fun e s => e = (.exit 2) ∧ s = ⟨[.any, .any, .any, .v (.one (.ptr 0 ⟨0, 0, 0, 0⟩)), .v (.one (.sc (.int .u64 t.2.1))), .v (.one (.sc (.int .u64 t.2.2))), .any, .any, .any, .any, .any, .any, .any, .any, .any, .any, .any, .any, .any, .any, .any, .any, .any, .any, .any, .any, .any, .any, .any, .any, .any, .any, .any, .any, .any, .any, .any, .any, .any, .any, .any, .any, .any, .any, .any, .any, .any, .any, .any, .any, .any, .any, .any, .any, .any, .any, .any, .any, .any, .any, .any, .any, .any, .any, .any, .any, .any, .any, .any, .any, .any, .any, .any, .any, .any, .any, .any, .any, .any, .any, .any, .any, .any, .any], [.ex false [.c (.sc (.bool t9.1)), .c (.sc (.int .u64 t.1)), .c (.sc (.int .i64 t18.2)), .c (.sc (.bool t9.2.2.2))] 44], 0⟩
theorem halterref02_Sqrt.l1_ok (t9 : Bool × Int × Int × Bool) (t18 : Int × Int) : ∀ (n : Nat) (x32 : Int) (x33 : Int) (x34 : Int) (x35 : Int) (r : Int × Int × Int), halterref02_Sqrt.l1 t9 t18 n x32 x33 x34 x35 = some r → TripN cfg (cpath (Try.f14.body.getD .skip) [1, 1, 1, 1, 1, 1, 1, 0, 1, 0, 0]) n (halterref02_Sqrt.l1_S t9 t18 x32 x33 x34 x35) (halterref02_Sqrt.l1_Q t9 t18 r) := by
  intro n
  induction n with
  | zero => intro x32 x33 x34 x35 r h; cases h
  | succ n ih =>
    intro x32 x33 x34 x35 r h
    rw [halterref02_Sqrt.l1] at h
    refine TripN.of_run cfg_ok (k := (.br (.br (.br (.adj [] (.adj [] (.adj [] (.adj [.keep [3, 4, 5, 6], .drop 1] .nil)))) (.adj [] (.adj [] (.adj [.keep [3, 4, 5, 6], .drop 1] .nil)))) (.br (.adj [] (.adj [] (.adj [] (.adj [.keep [3, 4, 5, 6], .drop 1] .nil)))) (.adj [] (.adj [] (.adj [.keep [3, 4, 5, 6], .drop 1] .nil))))) (.adj [.keep [3, 4, 5], .drop 1] .nil))) (to_goal (q := (True) ∧ (((decide (x35 < (57 : Int))) = true → (True) ∧ (((decide (x35 < (27 : Int))) = true → (True) ∧ ((4503599627370496 : Int) ≠ 0) ∧ ((4 : Int) ≠ 0) ∧ (True) ∧ ((4503599627370496 : Int) ≠ 0) ∧ (True) ∧ (True) ∧ (True) ∧ (True) ∧ (True) ∧ (True) ∧ (True) ∧ (True) ∧ (((halterref02_Sqrt.c0 x34 x32 x33) = true → (True ∧ (True) ∧ (True) ∧ (True) ∧ (True ∧ (True) ∧ (True ∧ (True) ∧ (((True) ∧ (True) ∧ True) ∧ TripN cfg (cpath (Try.f14.body.getD .skip) [1, 1, 1, 1, 1, 1, 1, 0, 1, 0, 0]) n (halterref02_Sqrt.l1_S t9 t18 (IntKind.wrap .u64 ((4 : Int) * (Int.tmod x32 (4503599627370496 : Int)))) (IntKind.wrap .u64 ((IntKind.wrap .u64 ((2 : Int) * x33)) + (1 : Int))) (IntKind.wrap .u64 ((IntKind.wrap .u64 ((IntKind.wrap .u64 ((IntKind.wrap .u64 ((4 : Int) * x34)) + (Int.tmod (IntKind.wrap .u64 (Int.tdiv x32 (4503599627370496 : Int))) (4 : Int)))) - (IntKind.wrap .u64 ((2 : Int) * (IntKind.wrap .u64 ((2 : Int) * x33)))))) - (1 : Int))) (IntKind.wrap .i64 (x35 + (1 : Int)))) (halterref02_Sqrt.l1_Q t9 t18 r)))))) ∧ ((halterref02_Sqrt.c0 x34 x32 x33) = false → (True ∧ (True ∧ (True) ∧ (((True) ∧ (True) ∧ True) ∧ TripN cfg (cpath (Try.f14.body.getD .skip) [1, 1, 1, 1, 1, 1, 1, 0, 1, 0, 0]) n (halterref02_Sqrt.l1_S t9 t18 (IntKind.wrap .u64 ((4 : Int) * (Int.tmod x32 (4503599627370496 : Int)))) (IntKind.wrap .u64 ((2 : Int) * x33)) (IntKind.wrap .u64 ((IntKind.wrap .u64 ((4 : Int) * x34)) + (Int.tmod (IntKind.wrap .u64 (Int.tdiv x32 (4503599627370496 : Int))) (4 : Int)))) (IntKind.wrap .i64 (x35 + (1 : Int)))) (halterref02_Sqrt.l1_Q t9 t18 r))))))) ∧ ((decide (x35 < (27 : Int))) = false → (True) ∧ (True) ∧ (True) ∧ (True) ∧ (True) ∧ (True) ∧ (((halterref02_Sqrt.c1 x34 x33) = true → (True ∧ (True) ∧ (True) ∧ (True) ∧ (True ∧ (True) ∧ (True ∧ (True) ∧ (((True) ∧ (True) ∧ True) ∧ TripN cfg (cpath (Try.f14.body.getD .skip) [1, 1, 1, 1, 1, 1, 1, 0, 1, 0, 0]) n (halterref02_Sqrt.l1_S t9 t18 x32 (IntKind.wrap .u64 ((IntKind.wrap .u64 ((2 : Int) * x33)) + (1 : Int))) (IntKind.wrap .u64 ((IntKind.wrap .u64 ((IntKind.wrap .u64 ((IntKind.wrap .u64 ((4 : Int) * x34)) + (0 : Int))) - (IntKind.wrap .u64 ((2 : Int) * (IntKind.wrap .u64 ((2 : Int) * x33)))))) - (1 : Int))) (IntKind.wrap .i64 (x35 + (1 : Int)))) (halterref02_Sqrt.l1_Q t9 t18 r)))))) ∧ ((halterref02_Sqrt.c1 x34 x33) = false → (True ∧ (True ∧ (True) ∧ (((True) ∧ (True) ∧ True) ∧ TripN cfg (cpath (Try.f14.body.getD .skip) [1, 1, 1, 1, 1, 1, 1, 0, 1, 0, 0]) n (halterref02_Sqrt.l1_S t9 t18 x32 (IntKind.wrap .u64 ((2 : Int) * x33)) (IntKind.wrap .u64 ((IntKind.wrap .u64 ((4 : Int) * x34)) + (0 : Int))) (IntKind.wrap .i64 (x35 + (1 : Int)))) (halterref02_Sqrt.l1_Q t9 t18 r))))))))) ∧ ((decide (x35 < (57 : Int))) = false → (((True) ∧ (True) ∧ True) ∧ halterref02_Sqrt.l1_Q t9 t18 r (.exit 2) ⟨[.any, .any, .any, .v (.one (.ptr 0 ⟨0, 0, 0, 0⟩)), .v (.one (.sc (.int .u64 x33))), .v (.one (.sc (.int .u64 x34))), .any, .any, .any, .any, .any, .any, .any, .any, .any, .any, .any, .any, .any, .any, .any, .any, .any, .any, .any, .any, .any, .any, .any, .any, .any, .any, .any, .any, .any, .any, .any, .any, .any, .any, .any, .any, .any, .any, .any, .any, .any, .any, .any, .any, .any, .any, .any, .any, .any, .any, .any, .any, .any, .any, .any, .any, .any, .any, .any, .any, .any, .any, .any, .any, .any, .any, .any, .any, .any, .any, .any, .any, .any, .any, .any, .any, .any, .any], [.ex false [.c (.sc (.bool t9.1)), .c (.sc (.int .u64 x32)), .c (.sc (.int .i64 t18.2)), .c (.sc (.bool (z3 t9)))] 44], 0⟩)))) (by kernel_rfl) ?_)
    refine ⟨trivial, ?_⟩
    refine ⟨fun b44 => ?_, fun b44 => ?_⟩
    · rw [if_pos (of_decide_eq_true b44)] at h
      refine ⟨trivial, ?_⟩
      refine ⟨fun b45 => ?_, fun b45 => ?_⟩
      · rw [if_pos (of_decide_eq_true b45)] at h
        refine ⟨trivial, ?_⟩
        refine ⟨(by decide), ?_⟩
        refine ⟨(by decide), ?_⟩
        refine ⟨trivial, ?_⟩
        refine ⟨(by decide), ?_⟩
        refine ⟨trivial, ?_⟩
        refine ⟨trivial, ?_⟩
        refine ⟨trivial, ?_⟩
        refine ⟨trivial, ?_⟩
        refine ⟨trivial, ?_⟩
        refine ⟨trivial, ?_⟩
        refine ⟨trivial, ?_⟩
        refine ⟨trivial, ?_⟩
        refine ⟨fun b46 => ?_, fun b46 => ?_⟩
        · rw [if_pos (of_decide_eq_true b46)] at h
          refine ⟨trivial, ?_⟩
          refine ⟨trivial, ?_⟩
          refine ⟨trivial, ?_⟩
          refine ⟨trivial, ?_⟩
          refine ⟨trivial, ?_⟩
          refine ⟨trivial, ?_⟩
          refine ⟨trivial, ?_⟩
          refine ⟨trivial, ?_⟩
          exact ⟨⟨trivial, trivial, trivial⟩, ih (IntKind.wrap .u64 ((4 : Int) * (Int.tmod x32 (4503599627370496 : Int)))) (IntKind.wrap .u64 ((IntKind.wrap .u64 ((2 : Int) * x33)) + (1 : Int))) (IntKind.wrap .u64 ((IntKind.wrap .u64 ((IntKind.wrap .u64 ((IntKind.wrap .u64 ((4 : Int) * x34)) + (Int.tmod (IntKind.wrap .u64 (Int.tdiv x32 (4503599627370496 : Int))) (4 : Int)))) - (IntKind.wrap .u64 ((2 : Int) * (IntKind.wrap .u64 ((2 : Int) * x33)))))) - (1 : Int))) (IntKind.wrap .i64 (x35 + (1 : Int))) r h⟩
        · rw [if_neg (of_decide_eq_false b46)] at h
          refine ⟨trivial, ?_⟩
          refine ⟨trivial, ?_⟩
          refine ⟨trivial, ?_⟩
          exact ⟨⟨trivial, trivial, trivial⟩, ih (IntKind.wrap .u64 ((4 : Int) * (Int.tmod x32 (4503599627370496 : Int)))) (IntKind.wrap .u64 ((2 : Int) * x33)) (IntKind.wrap .u64 ((IntKind.wrap .u64 ((4 : Int) * x34)) + (Int.tmod (IntKind.wrap .u64 (Int.tdiv x32 (4503599627370496 : Int))) (4 : Int)))) (IntKind.wrap .i64 (x35 + (1 : Int))) r h⟩
      · rw [if_neg (of_decide_eq_false b45)] at h
        refine ⟨trivial, ?_⟩
        refine ⟨trivial, ?_⟩
        refine ⟨trivial, ?_⟩
        refine ⟨trivial, ?_⟩
        refine ⟨trivial, ?_⟩
        refine ⟨trivial, ?_⟩
        refine ⟨fun b47 => ?_, fun b47 => ?_⟩
        · rw [if_pos (of_decide_eq_true b47)] at h
          refine ⟨trivial, ?_⟩
          refine ⟨trivial, ?_⟩
          refine ⟨trivial, ?_⟩
          refine ⟨trivial, ?_⟩
          refine ⟨trivial, ?_⟩
          refine ⟨trivial, ?_⟩
          refine ⟨trivial, ?_⟩
          refine ⟨trivial, ?_⟩
          exact ⟨⟨trivial, trivial, trivial⟩, ih x32 (IntKind.wrap .u64 ((IntKind.wrap .u64 ((2 : Int) * x33)) + (1 : Int))) (IntKind.wrap .u64 ((IntKind.wrap .u64 ((IntKind.wrap .u64 ((IntKind.wrap .u64 ((4 : Int) * x34)) + (0 : Int))) - (IntKind.wrap .u64 ((2 : Int) * (IntKind.wrap .u64 ((2 : Int) * x33)))))) - (1 : Int))) (IntKind.wrap .i64 (x35 + (1 : Int))) r h⟩
        · rw [if_neg (of_decide_eq_false b47)] at h
          refine ⟨trivial, ?_⟩
          refine ⟨trivial, ?_⟩
          refine ⟨trivial, ?_⟩
          exact ⟨⟨trivial, trivial, trivial⟩, ih x32 (IntKind.wrap .u64 ((2 : Int) * x33)) (IntKind.wrap .u64 ((IntKind.wrap .u64 ((4 : Int) * x34)) + (0 : Int))) (IntKind.wrap .i64 (x35 + (1 : Int))) r h⟩
    · rw [if_neg (of_decide_eq_false b44)] at h
      obtain rfl := Option.some.inj h
      exact ⟨⟨trivial, trivial, trivial⟩, rfl, rfl⟩
def halterref02_Sqrt.f (a0 : Int) : Option Int :=
  (halterref02_Class.f a0).bind fun t1 =>
  if t1 = (0 : Int) then
    some a0
  else
    (halterref02_Class.f a0).bind fun t3 =>
    if t3 = (4 : Int) then
      some (9221120237041090560 : Int)
    else
      (halterref02_Neg.f a0).bind fun t5 =>
      if t5 = true then
        some (9221120237041090560 : Int)
      else
        (halterref02_Class.f a0).bind fun t7 =>
        if t7 = (3 : Int) then
          some a0
        else
          (halterref02_Open.f a0).bind fun t9 =>
          (halterref02_Sqrt.l0 t9 FUEL t9.2.1 t9.2.2.1).bind fun t18 =>
          (halterref02_Sqrt.l1 t9 t18 FUEL t18.1 (0 : Int) (0 : Int) (0 : Int)).bind fun t43 =>
          (halterref02_Round.f false t43.2.1 (IntKind.wrap .i64 ((IntKind.wrap .i64 (Int.tdiv t18.2 (2 : Int))) - (30 : Int))) (decide (t43.2.2 > (0 : Int)))).bind fun t54 =>
          some t54
def halterref02_Sqrt.R (r : Int) : Tm := .v (.one (.sc (.int .u64 r)))
theorem halterref02_Sqrt.fun_ {a0 : Int} {r : Int} (h : halterref02_Sqrt.f a0 = some r) : Fun cfg 14 [.one (.sc (.int .u64 a0))] [] (halterref02_Sqrt.R r) [] := by
  unfold halterref02_Sqrt.f at h
  refine fun_of_run cfg_ok (f := 14) (fn := Try.f14) Try.func14 rfl (by kernel_rfl) (rs := [.tmp 2]) rfl (nt := 84) rfl (l := fin) (k := (.call true [] (Int) (fun t1 => halterref02_Class.R t1) (fun t1 => (.br (.adj [] (.adj [] (.adj [] .nil))) (.call true [] (Int) (fun t3 => halterref02_Class.R t3) (fun t3 => (.br (.one true (.one true (.one true (.adj [] (.adj [] (.adj [] .nil)))))) (.one false (.call true [] (Bool) (fun t5 => halterref02_Neg.R t5) (fun t5 => (.one false (.br (.adj [] (.adj [] (.adj [] .nil))) (.call true [] (Int) (fun t7 => halterref02_Class.R t7) (fun t7 => (.br (.adj [] (.adj [] (.adj [] .nil))) (.call true [] (Bool × Int × Int × Bool) (fun t9 => halterref02_Open.R t9) (fun t9 => (.adj [] (.adj [.keep [3]] (.sub (Int × Int) (fun _ => (.exit 0)) (fun t18 => ⟨[.any, .any, .any, .v (.one (.ptr 0 ⟨0, 0, 0, 0⟩)), .any, .any, .any, .any, .any, .any, .any, .any, .any, .any, .any, .any, .any, .any, .any, .any, .any, .any, .any, .any, .any, .any, .any, .any, .any, .any, .any, .any, .any, .any, .any, .any, .any, .any, .any, .any, .any, .any, .any, .any, .any, .any, .any, .any, .any, .any, .any, .any, .any, .any, .any, .any, .any, .any, .any, .any, .any, .any, .any, .any, .any, .any, .any, .any, .any, .any, .any, .any, .any, .any, .any, .any, .any, .any, .any, .any, .any, .any, .any, .any], [.ex false [.c (.sc (.bool t9.1)), .c (.sc (.int .u64 t18.1)), .c (.sc (.int .i64 t18.2)), .c (.sc (.bool (z3 t9)))] 44], 0⟩) (fun t18 => (.adj [] (.adj [] (.adj [] (.adj [.keep [3, 4, 5, 6]] (.sub (Int × Int × Int) (fun _ => (.exit 2)) (fun t43 => ⟨[.any, .any, .any, .v (.one (.ptr 0 ⟨0, 0, 0, 0⟩)), .v (.one (.sc (.int .u64 t43.2.1))), .v (.one (.sc (.int .u64 (z2 t43)))), .any, .any, .any, .any, .any, .any, .any, .any, .any, .any, .any, .any, .any, .any, .any, .any, .any, .any, .any, .any, .any, .any, .any, .any, .any, .any, .any, .any, .any, .any, .any, .any, .any, .any, .any, .any, .any, .any, .any, .any, .any, .any, .any, .any, .any, .any, .any, .any, .any, .any, .any, .any, .any, .any, .any, .any, .any, .any, .any, .any, .any, .any, .any, .any, .any, .any, .any, .any, .any, .any, .any, .any, .any, .any, .any, .any, .any, .any], [.ex false [.c (.sc (.bool t9.1)), .c (.sc (.int .u64 t43.1)), .c (.sc (.int .i64 t18.2)), .c (.sc (.bool (z3 t9)))] 44], 0⟩) (fun t43 => (.call true [] (Int) (fun t54 => halterref02_Round.R t54) (fun t54 => (.adj [] (.adj [.drop 0] .nil))))))))))))))))))))))))))))))) (to_goal (q := (∃ t1 : Int, (Fun cfg 21 [.one (.sc (.int .u64 a0))] [] (halterref02_Class.R t1) [] ∧ True) ∧ (True) ∧ (((t1 == (0 : Int)) = true → (True ∧ (True ∧ ((True) ∧ (True) ∧ (.v (.one (.sc (.int .u64 a0))) : Tm) = halterref02_Sqrt.R r ∧ ([] : List Box) = [])))) ∧ ((t1 == (0 : Int)) = false → (∃ t3 : Int, (Fun cfg 21 [.one (.sc (.int .u64 a0))] [] (halterref02_Class.R t3) [] ∧ True) ∧ (True) ∧ (((t3 == (4 : Int)) = false → ((t3 == (4 : Int)) = false ∧ (∃ t5 : Bool, (Fun cfg 38 [.one (.sc (.int .u64 a0))] [] (halterref02_Neg.R t5) [] ∧ True) ∧ ((t3 == (4 : Int)) = false ∧ ((t5 = true → (True ∧ (True ∧ ((True) ∧ (True) ∧ (.v (.one (.sc (.int .u64 (9221120237041090560 : Int)))) : Tm) = halterref02_Sqrt.R r ∧ ([] : List Box) = [])))) ∧ (t5 = false → (∃ t7 : Int, (Fun cfg 21 [.one (.sc (.int .u64 a0))] [] (halterref02_Class.R t7) [] ∧ True) ∧ (True) ∧ (((t7 == (3 : Int)) = true → (True ∧ (True ∧ ((True) ∧ (True) ∧ (.v (.one (.sc (.int .u64 a0))) : Tm) = halterref02_Sqrt.R r ∧ ([] : List Box) = [])))) ∧ ((t7 == (3 : Int)) = false → (∃ t9 : Bool × Int × Int × Bool, (Fun cfg 41 [.one (.sc (.int .u64 a0))] [] (halterref02_Open.R t9) [] ∧ True) ∧ (True) ∧ (True ∧ (((True) ∧ True) ∧ (∃ t18 : Int × Int, Trip cfg (.loop (cpath (Try.f14.body.getD .skip) [1, 1, 1, 1, 1, 0, 0, 0])) ⟨[.any, .any, .any, .v (.one (.ptr 0 ⟨0, 0, 0, 0⟩)), .any, .any, .any, .any, .any, .any, .any, .any, .any, .any, .any, .any, .any, .any, .any, .any, .any, .any, .any, .any, .any, .any, .any, .any, .any, .any, .any, .any, .any, .any, .any, .any, .any, .any, .any, .any, .any, .any, .any, .any, .any, .any, .any, .any, .any, .any, .any, .any, .any, .any, .any, .any, .any, .any, .any, .any, .any, .any, .any, .any, .any, .any, .any, .any, .any, .any, .any, .any, .any, .any, .any, .any, .any, .any, .any, .any, .any, .any, .any, .any], [.ex false [.c (.sc (.bool t9.1)), .c (.sc (.int .u64 t9.2.1)), .c (.sc (.int .i64 (p2 t9))), .c (.sc (.bool (z3 t9)))] 44], 0⟩ (fun e s => e = (.exit 0) ∧ s = ⟨[.any, .any, .any, .v (.one (.ptr 0 ⟨0, 0, 0, 0⟩)), .any, .any, .any, .any, .any, .any, .any, .any, .any, .any, .any, .any, .any, .any, .any, .any, .any, .any, .any, .any, .any, .any, .any, .any, .any, .any, .any, .any, .any, .any, .any, .any, .any, .any, .any, .any, .any, .any, .any, .any, .any, .any, .any, .any, .any, .any, .any, .any, .any, .any, .any, .any, .any, .any, .any, .any, .any, .any, .any, .any, .any, .any, .any, .any, .any, .any, .any, .any, .any, .any, .any, .any, .any, .any, .any, .any, .any, .any, .any, .any], [.ex false [.c (.sc (.bool t9.1)), .c (.sc (.int .u64 t18.1)), .c (.sc (.int .i64 t18.2)), .c (.sc (.bool (z3 t9)))] 44], 0⟩) ∧ (True ∧ (True ∧ (True ∧ (((True) ∧ True) ∧ (∃ t43 : Int × Int × Int, Trip cfg (.loop (cpath (Try.f14.body.getD .skip) [1, 1, 1, 1, 1, 1, 1, 0, 1, 0, 0])) ⟨[.any, .any, .any, .v (.one (.ptr 0 ⟨0, 0, 0, 0⟩)), .v (.one (.sc (.int .u64 (0 : Int)))), .v (.one (.sc (.int .u64 (0 : Int)))), .v (.one (.sc (.int .i64 (0 : Int)))), .any, .any, .any, .any, .any, .any, .any, .any, .any, .any, .any, .any, .any, .any, .any, .any, .any, .any, .any, .any, .any, .any, .any, .any, .any, .any, .any, .any, .any, .any, .any, .any, .any, .any, .any, .any, .any, .any, .any, .any, .any, .any, .any, .any, .any, .any, .any, .any, .any, .any, .any, .any, .any, .any, .any, .any, .any, .any, .any, .any, .any, .any, .any, .any, .any, .any, .any, .any, .any, .any, .any, .any, .any, .any, .any, .any, .any], [.ex false [.c (.sc (.bool t9.1)), .c (.sc (.int .u64 t18.1)), .c (.sc (.int .i64 t18.2)), .c (.sc (.bool (z3 t9)))] 44], 0⟩ (fun e s => e = (.exit 2) ∧ s = ⟨[.any, .any, .any, .v (.one (.ptr 0 ⟨0, 0, 0, 0⟩)), .v (.one (.sc (.int .u64 t43.2.1))), .v (.one (.sc (.int .u64 (z2 t43)))), .any, .any, .any, .any, .any, .any, .any, .any, .any, .any, .any, .any, .any, .any, .any, .any, .any, .any, .any, .any, .any, .any, .any, .any, .any, .any, .any, .any, .any, .any, .any, .any, .any, .any, .any, .any, .any, .any, .any, .any, .any, .any, .any, .any, .any, .any, .any, .any, .any, .any, .any, .any, .any, .any, .any, .any, .any, .any, .any, .any, .any, .any, .any, .any, .any, .any, .any, .any, .any, .any, .any, .any, .any, .any, .any, .any, .any, .any], [.ex false [.c (.sc (.bool t9.1)), .c (.sc (.int .u64 t43.1)), .c (.sc (.int .i64 t18.2)), .c (.sc (.bool (z3 t9)))] 44], 0⟩) ∧ (True) ∧ ((2 : Int) ≠ 0) ∧ (True) ∧ (True) ∧ (∃ t54 : Int, (Fun cfg 43 [.agg [.c (.sc (.bool false)), .c (.sc (.int .u64 t43.2.1)), .c (.sc (.int .i64 (IntKind.wrap .i64 ((IntKind.wrap .i64 (Int.tdiv t18.2 (2 : Int))) - (30 : Int))))), .c (.sc (.bool (decide ((z2 t43) > (0 : Int)))))]] [] (halterref02_Round.R t54) [] ∧ True) ∧ (True ∧ ((True) ∧ ((True) ∧ True) ∧ (.v (.one (.sc (.int .u64 t54))) : Tm) = halterref02_Sqrt.R r ∧ ([] : List Box) = []))))))))))))))))))))) ∧ ((t3 == (4 : Int)) = true → ((t3 == (4 : Int)) = true ∧ ((t3 == (4 : Int)) = true ∧ (true = true ∧ (True ∧ (True ∧ ((True) ∧ (True) ∧ (.v (.one (.sc (.int .u64 (9221120237041090560 : Int)))) : Tm) = halterref02_Sqrt.R r ∧ ([] : List Box) = []))))))))))))) (by kernel_rfl) ?_)
  obtain ⟨t1, ht1, h⟩ := of_bind h
  refine ⟨t1, ⟨halterref02_Class.fun_ ht1, trivial⟩, ?_⟩
  refine ⟨trivial, ?_⟩
  refine ⟨fun b2 => ?_, fun b2 => ?_⟩
  · rw [if_pos (beq_t b2)] at h
    refine ⟨trivial, ?_⟩
    refine ⟨trivial, ?_⟩
    obtain rfl := Option.some.inj h
    exact ⟨trivial, trivial, rfl, rfl⟩
  · rw [if_neg (beq_f b2)] at h
    obtain ⟨t3, ht3, h⟩ := of_bind h
    refine ⟨t3, ⟨halterref02_Class.fun_ ht3, trivial⟩, ?_⟩
    refine ⟨trivial, ?_⟩
    refine ⟨fun b4 => ?_, fun b4 => ?_⟩
    · rw [if_neg (beq_f b4)] at h
      refine ⟨b4, ?_⟩
      obtain ⟨t5, ht5, h⟩ := of_bind h
      refine ⟨t5, ⟨halterref02_Neg.fun_ ht5, trivial⟩, ?_⟩
      refine ⟨b4, ?_⟩
      refine ⟨fun b6 => ?_, fun b6 => ?_⟩
      · rw [if_pos b6] at h
        refine ⟨trivial, ?_⟩
        refine ⟨trivial, ?_⟩
        obtain rfl := Option.some.inj h
        exact ⟨trivial, trivial, rfl, rfl⟩
      · rw [if_neg (ff b6)] at h
        obtain ⟨t7, ht7, h⟩ := of_bind h
        refine ⟨t7, ⟨halterref02_Class.fun_ ht7, trivial⟩, ?_⟩
        refine ⟨trivial, ?_⟩
        refine ⟨fun b8 => ?_, fun b8 => ?_⟩
        · rw [if_pos (beq_t b8)] at h
          refine ⟨trivial, ?_⟩
          refine ⟨trivial, ?_⟩
          obtain rfl := Option.some.inj h
          exact ⟨trivial, trivial, rfl, rfl⟩
        · rw [if_neg (beq_f b8)] at h
          obtain ⟨t9, ht9, h⟩ := of_bind h
          refine ⟨t9, ⟨halterref02_Open.fun_ ht9, trivial⟩, ?_⟩
          refine ⟨trivial, ?_⟩
          refine ⟨trivial, ?_⟩
          obtain ⟨t18, ht18, h⟩ := of_bind h
          refine ⟨⟨trivial, trivial⟩, t18, Trip.loop FUEL (halterref02_Sqrt.l0_ok t9 FUEL t9.2.1 t9.2.2.1 t18 ht18), ?_⟩
          refine ⟨trivial, ?_⟩
          refine ⟨trivial, ?_⟩
          refine ⟨trivial, ?_⟩
          obtain ⟨t43, ht43, h⟩ := of_bind h
          refine ⟨⟨trivial, trivial⟩, t43, Trip.loop FUEL (halterref02_Sqrt.l1_ok t9 t18 FUEL t18.1 (0 : Int) (0 : Int) (0 : Int) t43 ht43), ?_⟩
          refine ⟨trivial, ?_⟩
          refine ⟨(by decide), ?_⟩
          refine ⟨trivial, ?_⟩
          refine ⟨trivial, ?_⟩
          obtain ⟨t54, ht54, h⟩ := of_bind h
          refine ⟨t54, ⟨halterref02_Round.fun_ ht54, trivial⟩, ?_⟩
          refine ⟨trivial, ?_⟩
          obtain rfl := Option.some.inj h
          exact ⟨trivial, ⟨trivial, trivial⟩, rfl, rfl⟩
    · rw [if_pos (beq_t b4)] at h
      refine ⟨b4, ?_⟩
      refine ⟨b4, ?_⟩
      refine ⟨rfl, ?_⟩
      refine ⟨trivial, ?_⟩
      refine ⟨trivial, ?_⟩
      obtain rfl := Option.some.inj h
      exact ⟨trivial, trivial, rfl, rfl⟩
/-! halter/soft.Class -/
def soft_Class.f (a0 : Int) : Option Int :=
  if (bits .and .u64 (shr .u64 a0 (52 : Int)) (2047 : Int)) = (0 : Int) then
    if (bits .and .u64 a0 (4503599627370495 : Int)) = (0 : Int) then
      some (0 : Int)
    else
      some (1 : Int)
  else
    if (bits .and .u64 (shr .u64 a0 (52 : Int)) (2047 : Int)) < (2047 : Int) then
      some (2 : Int)
    else
      if (bits .and .u64 a0 (4503599627370495 : Int)) = (0 : Int) then
        some (3 : Int)
      else
        some (4 : Int)
def soft_Class.R (r : Int) : Tm := .v (.one (.sc (.int .i64 r)))
theorem soft_Class.fun_ {a0 : Int} {r : Int} (h : soft_Class.f a0 = some r) : Fun cfg 20 [.one (.sc (.int .u64 a0))] [] (soft_Class.R r) [] := by
  unfold soft_Class.f at h
  refine fun_of_run cfg_ok (f := 20) (fn := Try.f20) Try.func20 rfl (by kernel_rfl) (rs := [.tmp 2]) rfl (nt := 26) rfl (l := fin) (k := (.br (.one true (.one true (.br (.adj [] (.adj [] (.adj [] .nil))) (.one true (.adj [] (.adj [] (.adj [] .nil))))))) (.one false (.one false (.one false (.one false (.br (.adj [] (.adj [] (.adj [] .nil))) (.br (.adj [] (.adj [] (.adj [] .nil))) (.adj [] (.adj [] (.adj [] (.adj [] .nil)))))))))))) (to_goal (q := (0 ≤ (52 : Int)) ∧ (True) ∧ (True) ∧ (True) ∧ ((((bits .and .u64 (shr .u64 a0 (52 : Int)) (2047 : Int)) == (0 : Int)) = true → (((bits .and .u64 (shr .u64 a0 (52 : Int)) (2047 : Int)) == (0 : Int)) = true ∧ (True) ∧ (((bits .and .u64 (shr .u64 a0 (52 : Int)) (2047 : Int)) == (0 : Int)) = true ∧ ((((bits .and .u64 a0 (4503599627370495 : Int)) == (0 : Int)) = true → (True ∧ (True ∧ ((True) ∧ (True) ∧ (.v (.one (.sc (.int .i64 (0 : Int)))) : Tm) = soft_Class.R r ∧ ([] : List Box) = [])))) ∧ (((bits .and .u64 a0 (4503599627370495 : Int)) == (0 : Int)) = false → (True) ∧ (((bits .and .u64 (shr .u64 a0 (52 : Int)) (2047 : Int)) == (0 : Int)) = true ∧ (True ∧ (True ∧ ((True) ∧ (True) ∧ (.v (.one (.sc (.int .i64 (1 : Int)))) : Tm) = soft_Class.R r ∧ ([] : List Box) = []))))))))) ∧ (((bits .and .u64 (shr .u64 a0 (52 : Int)) (2047 : Int)) == (0 : Int)) = false → (((bits .and .u64 (shr .u64 a0 (52 : Int)) (2047 : Int)) == (0 : Int)) = false ∧ (((bits .and .u64 (shr .u64 a0 (52 : Int)) (2047 : Int)) == (0 : Int)) = false ∧ (false = false ∧ (True) ∧ (((bits .and .u64 (shr .u64 a0 (52 : Int)) (2047 : Int)) == (0 : Int)) = false ∧ (True) ∧ (((decide ((bits .and .u64 (shr .u64 a0 (52 : Int)) (2047 : Int)) < (2047 : Int))) = true → (True ∧ (True ∧ ((True) ∧ (True) ∧ (.v (.one (.sc (.int .i64 (2 : Int)))) : Tm) = soft_Class.R r ∧ ([] : List Box) = [])))) ∧ ((decide ((bits .and .u64 (shr .u64 a0 (52 : Int)) (2047 : Int)) < (2047 : Int))) = false → (True) ∧ ((((bits .and .u64 a0 (4503599627370495 : Int)) == (0 : Int)) = true → (True ∧ (True ∧ ((True) ∧ (True) ∧ (.v (.one (.sc (.int .i64 (3 : Int)))) : Tm) = soft_Class.R r ∧ ([] : List Box) = [])))) ∧ (((bits .and .u64 a0 (4503599627370495 : Int)) == (0 : Int)) = false → (True ∧ (True ∧ (True ∧ ((True) ∧ (True) ∧ (.v (.one (.sc (.int .i64 (4 : Int)))) : Tm) = soft_Class.R r ∧ ([] : List Box) = []))))))))))))))) (by kernel_rfl) ?_)
  refine ⟨(by decide), ?_⟩
  refine ⟨trivial, ?_⟩
  refine ⟨trivial, ?_⟩
  refine ⟨trivial, ?_⟩
  refine ⟨fun b1 => ?_, fun b1 => ?_⟩
  · rw [if_pos (beq_t b1)] at h
    refine ⟨b1, ?_⟩
    refine ⟨trivial, ?_⟩
    refine ⟨b1, ?_⟩
    refine ⟨fun b2 => ?_, fun b2 => ?_⟩
    · rw [if_pos (beq_t b2)] at h
      refine ⟨trivial, ?_⟩
      refine ⟨trivial, ?_⟩
      obtain rfl := Option.some.inj h
      exact ⟨trivial, trivial, rfl, rfl⟩
    · rw [if_neg (beq_f b2)] at h
      refine ⟨trivial, ?_⟩
      refine ⟨b1, ?_⟩
      refine ⟨trivial, ?_⟩
      refine ⟨trivial, ?_⟩
      obtain rfl := Option.some.inj h
      exact ⟨trivial, trivial, rfl, rfl⟩
  · rw [if_neg (beq_f b1)] at h
    refine ⟨b1, ?_⟩
    refine ⟨b1, ?_⟩
    refine ⟨rfl, ?_⟩
    refine ⟨trivial, ?_⟩
    refine ⟨b1, ?_⟩
    refine ⟨trivial, ?_⟩
    refine ⟨fun b3 => ?_, fun b3 => ?_⟩
    · rw [if_pos (of_decide_eq_true b3)] at h
      refine ⟨trivial, ?_⟩
      refine ⟨trivial, ?_⟩
      obtain rfl := Option.some.inj h
      exact ⟨trivial, trivial, rfl, rfl⟩
    · rw [if_neg (of_decide_eq_false b3)] at h
      refine ⟨trivial, ?_⟩
      refine ⟨fun b4 => ?_, fun b4 => ?_⟩
      · rw [if_pos (beq_t b4)] at h
        refine ⟨trivial, ?_⟩
        refine ⟨trivial, ?_⟩
        obtain rfl := Option.some.inj h
        exact ⟨trivial, trivial, rfl, rfl⟩
      · rw [if_neg (beq_f b4)] at h
        refine ⟨trivial, ?_⟩
        refine ⟨trivial, ?_⟩
        refine ⟨trivial, ?_⟩
        obtain rfl := Option.some.inj h
        exact ⟨trivial, trivial, rfl, rfl⟩
/-! halter/halterlaw02.sure -/
def halterlaw02_sure.f : Option Bool :=
  (soft_Add.f (4607182418800017408 : Int) (4607182418800017408 : Int)).bind fun t1 =>
  if t1 = (4611686018427387904 : Int) then
    (soft_Div.f (4607182418800017408 : Int) (0 : Int)).bind fun t3 =>
    if t3 = (9218868437227405312 : Int) then
      (soft_Sqrt.f (9223372036854775808 : Int)).bind fun t5 =>
      if t5 = (9223372036854775808 : Int) then
        (soft_Cmp.f (4607182418800017408 : Int) (4611686018427387904 : Int)).bind fun t7 =>
        if t7 = (-1 : Int) then
          (soft_ToInt.f (4611686018427387904 : Int)).bind fun t9 =>
          if t9 = (2 : Int) then
            (soft_FromInt.f (4294967295 : Int)).bind fun t11 =>
            if t11 = (13830554455654793216 : Int) then
              (soft_Class.f (1 : Int)).bind fun t13 =>
              if t13 = (1 : Int) then
                (soft_Mul.f (4611686018427387904 : Int) (4611686018427387904 : Int)).bind fun t15 =>
                some (t15 == (4616189618054758400 : Int))
              else
                some false
            else
              some false
          else
            some false
        else
          some false
      else
        some false
    else
      some false
  else
    some false
def halterlaw02_sure.R (r : Bool) : Tm := .v (.one (.sc (.bool r)))
theorem halterlaw02_sure.fun_ {r : Bool} (h : halterlaw02_sure.f = some r) : Fun cfg 15 [] [] (halterlaw02_sure.R r) [] := by
  unfold halterlaw02_sure.f at h
  refine fun_of_run cfg_ok (f := 15) (fn := Try.f15) Try.func15 rfl (by kernel_rfl) (rs := [.tmp 0]) rfl (nt := 31) rfl (l := fin) (k := (.call true [] (Int) (fun t1 => soft_Add.R t1) (fun t1 => (.br (.call true [] (Int) (fun t3 => soft_Div.R t3) (fun t3 => (.one true (.one true (.br (.call true [] (Int) (fun t5 => soft_Sqrt.R t5) (fun t5 => (.one true (.one true (.br (.call true [] (Int) (fun t7 => soft_Cmp.R t7) (fun t7 => (.one true (.one true (.br (.call true [] (Int) (fun t9 => soft_ToInt.R t9) (fun t9 => (.one true (.one true (.br (.call true [] (Int) (fun t11 => soft_FromInt.R t11) (fun t11 => (.one true (.one true (.br (.call true [] (Int) (fun t13 => soft_Class.R t13) (fun t13 => (.one true (.one true (.br (.call true [] (Int) (fun t15 => soft_Mul.R t15) (fun t15 => (.one true (.one true (.adj [] (.adj [] .nil)))))) (.one false (.one false (.adj [] (.adj [] .nil))))))))) (.one false (.one false (.one false (.one false (.one false (.adj [] (.adj [] .nil)))))))))))) (.one false (.one false (.one false (.one false (.one false (.one false (.one false (.one false (.adj [] (.adj [] .nil))))))))))))))) (.one false (.one false (.one false (.one false (.one false (.one false (.one false (.one false (.one false (.one false (.one false (.adj [] (.adj [] .nil)))))))))))))))))) (.one false (.one false (.one false (.one false (.one false (.one false (.one false (.one false (.one false (.one false (.one false (.one false (.one false (.one false (.adj [] (.adj [] .nil))))))))))))))))))))) (.one false (.one false (.one false (.one false (.one false (.one false (.one false (.one false (.one false (.one false (.one false (.one false (.one false (.one false (.one false (.one false (.one false (.adj [] (.adj [] .nil)))))))))))))))))))))))) (.one false (.one false (.one false (.one false (.one false (.one false (.one false (.one false (.one false (.one false (.one false (.one false (.one false (.one false (.one false (.one false (.one false (.one false (.one false (.one false (.adj [] (.adj [] .nil)))))))))))))))))))))))))) (to_goal (q := (∃ t1 : Int, (Fun cfg 16 [.one (.sc (.int .u64 (4607182418800017408 : Int))), .one (.sc (.int .u64 (4607182418800017408 : Int)))] [] (soft_Add.R t1) [] ∧ True) ∧ (True) ∧ (((t1 == (4611686018427387904 : Int)) = true → (∃ t3 : Int, (Fun cfg 11 [.one (.sc (.int .u64 (4607182418800017408 : Int))), .one (.sc (.int .u64 (0 : Int)))] [] (soft_Div.R t3) [] ∧ True) ∧ ((t1 == (4611686018427387904 : Int)) = true ∧ (True) ∧ ((t1 == (4611686018427387904 : Int)) = true ∧ (((t3 == (9218868437227405312 : Int)) = true → (∃ t5 : Int, (Fun cfg 13 [.one (.sc (.int .u64 (9223372036854775808 : Int)))] [] (soft_Sqrt.R t5) [] ∧ True) ∧ ((t3 == (9218868437227405312 : Int)) = true ∧ (True) ∧ ((t3 == (9218868437227405312 : Int)) = true ∧ (((t5 == (9223372036854775808 : Int)) = true → (∃ t7 : Int, (Fun cfg 24 [.one (.sc (.int .u64 (4607182418800017408 : Int))), .one (.sc (.int .u64 (4611686018427387904 : Int)))] [] (soft_Cmp.R t7) [] ∧ True) ∧ ((t5 == (9223372036854775808 : Int)) = true ∧ (True) ∧ ((t5 == (9223372036854775808 : Int)) = true ∧ (((t7 == (-1 : Int)) = true → (∃ t9 : Int, (Fun cfg 25 [.one (.sc (.int .u64 (4611686018427387904 : Int)))] [] (soft_ToInt.R t9) [] ∧ True) ∧ ((t7 == (-1 : Int)) = true ∧ (True) ∧ ((t7 == (-1 : Int)) = true ∧ (((t9 == (2 : Int)) = true → (∃ t11 : Int, (Fun cfg 23 [.one (.sc (.int .u32 (4294967295 : Int)))] [] (soft_FromInt.R t11) [] ∧ True) ∧ ((t9 == (2 : Int)) = true ∧ (True) ∧ ((t9 == (2 : Int)) = true ∧ (((t11 == (13830554455654793216 : Int)) = true → (∃ t13 : Int, (Fun cfg 20 [.one (.sc (.int .u64 (1 : Int)))] [] (soft_Class.R t13) [] ∧ True) ∧ ((t11 == (13830554455654793216 : Int)) = true ∧ (True) ∧ ((t11 == (13830554455654793216 : Int)) = true ∧ (((t13 == (1 : Int)) = true → (∃ t15 : Int, (Fun cfg 9 [.one (.sc (.int .u64 (4611686018427387904 : Int))), .one (.sc (.int .u64 (4611686018427387904 : Int)))] [] (soft_Mul.R t15) [] ∧ True) ∧ ((t13 == (1 : Int)) = true ∧ (True) ∧ ((t13 == (1 : Int)) = true ∧ (True ∧ ((True) ∧ (True) ∧ (.v (.one (.sc (.bool (t15 == (4616189618054758400 : Int))))) : Tm) = halterlaw02_sure.R r ∧ ([] : List Box) = [])))))) ∧ ((t13 == (1 : Int)) = false → ((t13 == (1 : Int)) = false ∧ ((t13 == (1 : Int)) = false ∧ (True ∧ ((True) ∧ (True) ∧ (.v (.one (.sc (.bool false))) : Tm) = halterlaw02_sure.R r ∧ ([] : List Box) = [])))))))))) ∧ ((t11 == (13830554455654793216 : Int)) = false → ((t11 == (13830554455654793216 : Int)) = false ∧ ((t11 == (13830554455654793216 : Int)) = false ∧ (false = false ∧ (false = false ∧ (false = false ∧ (True ∧ ((True) ∧ (True) ∧ (.v (.one (.sc (.bool false))) : Tm) = halterlaw02_sure.R r ∧ ([] : List Box) = []))))))))))))) ∧ ((t9 == (2 : Int)) = false → ((t9 == (2 : Int)) = false ∧ ((t9 == (2 : Int)) = false ∧ (false = false ∧ (false = false ∧ (false = false ∧ (false = false ∧ (false = false ∧ (false = false ∧ (True ∧ ((True) ∧ (True) ∧ (.v (.one (.sc (.bool false))) : Tm) = halterlaw02_sure.R r ∧ ([] : List Box) = [])))))))))))))))) ∧ ((t7 == (-1 : Int)) = false → ((t7 == (-1 : Int)) = false ∧ ((t7 == (-1 : Int)) = false ∧ (false = false ∧ (false = false ∧ (false = false ∧ (false = false ∧ (false = false ∧ (false = false ∧ (false = false ∧ (false = false ∧ (false = false ∧ (True ∧ ((True) ∧ (True) ∧ (.v (.one (.sc (.bool false))) : Tm) = halterlaw02_sure.R r ∧ ([] : List Box) = []))))))))))))))))))) ∧ ((t5 == (9223372036854775808 : Int)) = false → ((t5 == (9223372036854775808 : Int)) = false ∧ ((t5 == (9223372036854775808 : Int)) = false ∧ (false = false ∧ (false = false ∧ (false = false ∧ (false = false ∧ (false = false ∧ (false = false ∧ (false = false ∧ (false = false ∧ (false = false ∧ (false = false ∧ (false = false ∧ (false = false ∧ (True ∧ ((True) ∧ (True) ∧ (.v (.one (.sc (.bool false))) : Tm) = halterlaw02_sure.R r ∧ ([] : List Box) = [])))))))))))))))))))))) ∧ ((t3 == (9218868437227405312 : Int)) = false → ((t3 == (9218868437227405312 : Int)) = false ∧ ((t3 == (9218868437227405312 : Int)) = false ∧ (false = false ∧ (false = false ∧ (false = false ∧ (false = false ∧ (false = false ∧ (false = false ∧ (false = false ∧ (false = false ∧ (false = false ∧ (false = false ∧ (false = false ∧ (false = false ∧ (false = false ∧ (false = false ∧ (false = false ∧ (True ∧ ((True) ∧ (True) ∧ (.v (.one (.sc (.bool false))) : Tm) = halterlaw02_sure.R r ∧ ([] : List Box) = []))))))))))))))))))))))))) ∧ ((t1 == (4611686018427387904 : Int)) = false → ((t1 == (4611686018427387904 : Int)) = false ∧ ((t1 == (4611686018427387904 : Int)) = false ∧ (false = false ∧ (false = false ∧ (false = false ∧ (false = false ∧ (false = false ∧ (false = false ∧ (false = false ∧ (false = false ∧ (false = false ∧ (false = false ∧ (false = false ∧ (false = false ∧ (false = false ∧ (false = false ∧ (false = false ∧ (false = false ∧ (false = false ∧ (false = false ∧ (True ∧ ((True) ∧ (True) ∧ (.v (.one (.sc (.bool false))) : Tm) = halterlaw02_sure.R r ∧ ([] : List Box) = [])))))))))))))))))))))))))) (by kernel_rfl) ?_)
  obtain ⟨t1, ht1, h⟩ := of_bind h
  refine ⟨t1, ⟨soft_Add.fun_ ht1, trivial⟩, ?_⟩
  refine ⟨trivial, ?_⟩
  refine ⟨fun b2 => ?_, fun b2 => ?_⟩
  · rw [if_pos (beq_t b2)] at h
    obtain ⟨t3, ht3, h⟩ := of_bind h
    refine ⟨t3, ⟨soft_Div.fun_ ht3, trivial⟩, ?_⟩
    refine ⟨b2, ?_⟩
    refine ⟨trivial, ?_⟩
    refine ⟨b2, ?_⟩
    refine ⟨fun b4 => ?_, fun b4 => ?_⟩
    · rw [if_pos (beq_t b4)] at h
      obtain ⟨t5, ht5, h⟩ := of_bind h
      refine ⟨t5, ⟨soft_Sqrt.fun_ ht5, trivial⟩, ?_⟩
      refine ⟨b4, ?_⟩
      refine ⟨trivial, ?_⟩
      refine ⟨b4, ?_⟩
      refine ⟨fun b6 => ?_, fun b6 => ?_⟩
      · rw [if_pos (beq_t b6)] at h
        obtain ⟨t7, ht7, h⟩ := of_bind h
        refine ⟨t7, ⟨soft_Cmp.fun_ ht7, trivial⟩, ?_⟩
        refine ⟨b6, ?_⟩
        refine ⟨trivial, ?_⟩
        refine ⟨b6, ?_⟩
        refine ⟨fun b8 => ?_, fun b8 => ?_⟩
        · rw [if_pos (beq_t b8)] at h
          obtain ⟨t9, ht9, h⟩ := of_bind h
          refine ⟨t9, ⟨soft_ToInt.fun_ ht9, trivial⟩, ?_⟩
          refine ⟨b8, ?_⟩
          refine ⟨trivial, ?_⟩
          refine ⟨b8, ?_⟩
          refine ⟨fun b10 => ?_, fun b10 => ?_⟩
          · rw [if_pos (beq_t b10)] at h
            obtain ⟨t11, ht11, h⟩ := of_bind h
            refine ⟨t11, ⟨soft_FromInt.fun_ ht11, trivial⟩, ?_⟩
            refine ⟨b10, ?_⟩
            refine ⟨trivial, ?_⟩
            refine ⟨b10, ?_⟩
            refine ⟨fun b12 => ?_, fun b12 => ?_⟩
            · rw [if_pos (beq_t b12)] at h
              obtain ⟨t13, ht13, h⟩ := of_bind h
              refine ⟨t13, ⟨soft_Class.fun_ ht13, trivial⟩, ?_⟩
              refine ⟨b12, ?_⟩
              refine ⟨trivial, ?_⟩
              refine ⟨b12, ?_⟩
              refine ⟨fun b14 => ?_, fun b14 => ?_⟩
              · rw [if_pos (beq_t b14)] at h
                obtain ⟨t15, ht15, h⟩ := of_bind h
                refine ⟨t15, ⟨soft_Mul.fun_ ht15, trivial⟩, ?_⟩
                refine ⟨b14, ?_⟩
                refine ⟨trivial, ?_⟩
                refine ⟨b14, ?_⟩
                refine ⟨trivial, ?_⟩
                obtain rfl := Option.some.inj h
                exact ⟨trivial, trivial, rfl, rfl⟩
              · rw [if_neg (beq_f b14)] at h
                refine ⟨b14, ?_⟩
                refine ⟨b14, ?_⟩
                refine ⟨trivial, ?_⟩
                obtain rfl := Option.some.inj h
                exact ⟨trivial, trivial, rfl, rfl⟩
            · rw [if_neg (beq_f b12)] at h
              refine ⟨b12, ?_⟩
              refine ⟨b12, ?_⟩
              refine ⟨rfl, ?_⟩
              refine ⟨rfl, ?_⟩
              refine ⟨rfl, ?_⟩
              refine ⟨trivial, ?_⟩
              obtain rfl := Option.some.inj h
              exact ⟨trivial, trivial, rfl, rfl⟩
          · rw [if_neg (beq_f b10)] at h
            refine ⟨b10, ?_⟩
            refine ⟨b10, ?_⟩
            refine ⟨rfl, ?_⟩
            refine ⟨rfl, ?_⟩
            refine ⟨rfl, ?_⟩
            refine ⟨rfl, ?_⟩
            refine ⟨rfl, ?_⟩
            refine ⟨rfl, ?_⟩
            refine ⟨trivial, ?_⟩
            obtain rfl := Option.some.inj h
            exact ⟨trivial, trivial, rfl, rfl⟩
        · rw [if_neg (beq_f b8)] at h
          refine ⟨b8, ?_⟩
          refine ⟨b8, ?_⟩
          refine ⟨rfl, ?_⟩
          refine ⟨rfl, ?_⟩
          refine ⟨rfl, ?_⟩
          refine ⟨rfl, ?_⟩
          refine ⟨rfl, ?_⟩
          refine ⟨rfl, ?_⟩
          refine ⟨rfl, ?_⟩
          refine ⟨rfl, ?_⟩
          refine ⟨rfl, ?_⟩
          refine ⟨trivial, ?_⟩
          obtain rfl := Option.some.inj h
          exact ⟨trivial, trivial, rfl, rfl⟩
      · rw [if_neg (beq_f b6)] at h
        refine ⟨b6, ?_⟩
        refine ⟨b6, ?_⟩
        refine ⟨rfl, ?_⟩
        refine ⟨rfl, ?_⟩
        refine ⟨rfl, ?_⟩
        refine ⟨rfl, ?_⟩
        refine ⟨rfl, ?_⟩
        refine ⟨rfl, ?_⟩
        refine ⟨rfl, ?_⟩
        refine ⟨rfl, ?_⟩
        refine ⟨rfl, ?_⟩
        refine ⟨rfl, ?_⟩
        refine ⟨rfl, ?_⟩
        refine ⟨rfl, ?_⟩
        refine ⟨trivial, ?_⟩
        obtain rfl := Option.some.inj h
        exact ⟨trivial, trivial, rfl, rfl⟩
    · rw [if_neg (beq_f b4)] at h
      refine ⟨b4, ?_⟩
      refine ⟨b4, ?_⟩
      refine ⟨rfl, ?_⟩
      refine ⟨rfl, ?_⟩
      refine ⟨rfl, ?_⟩
      refine ⟨rfl, ?_⟩
      refine ⟨rfl, ?_⟩
      refine ⟨rfl, ?_⟩
      refine ⟨rfl, ?_⟩
      refine ⟨rfl, ?_⟩
      refine ⟨rfl, ?_⟩
      refine ⟨rfl, ?_⟩
      refine ⟨rfl, ?_⟩
      refine ⟨rfl, ?_⟩
      refine ⟨rfl, ?_⟩
      refine ⟨rfl, ?_⟩
      refine ⟨rfl, ?_⟩
      refine ⟨trivial, ?_⟩
      obtain rfl := Option.some.inj h
      exact ⟨trivial, trivial, rfl, rfl⟩
  · rw [if_neg (beq_f b2)] at h
    refine ⟨b2, ?_⟩
    refine ⟨b2, ?_⟩
    refine ⟨rfl, ?_⟩
    refine ⟨rfl, ?_⟩
    refine ⟨rfl, ?_⟩
    refine ⟨rfl, ?_⟩
    refine ⟨rfl, ?_⟩
    refine ⟨rfl, ?_⟩
    refine ⟨rfl, ?_⟩
    refine ⟨rfl, ?_⟩
    refine ⟨rfl, ?_⟩
    refine ⟨rfl, ?_⟩
    refine ⟨rfl, ?_⟩
    refine ⟨rfl, ?_⟩
    refine ⟨rfl, ?_⟩
    refine ⟨rfl, ?_⟩
    refine ⟨rfl, ?_⟩
    refine ⟨rfl, ?_⟩
    refine ⟨rfl, ?_⟩
    refine ⟨rfl, ?_⟩
    refine ⟨trivial, ?_⟩
    obtain rfl := Option.some.inj h
    exact ⟨trivial, trivial, rfl, rfl⟩
/-! halter/halterlaw02.SoftParts -/
def halterlaw02_SoftParts.f (a0 : Int) (a1 : Int) : Option Bool :=
  (soft_Mul.f a0 a1).bind fun t1 =>
  (halterref02_Mul.f a0 a1).bind fun t2 =>
  if t1 = t2 then
    (soft_Div.f a0 a1).bind fun t4 =>
    (halterref02_Div.f a0 a1).bind fun t5 =>
    if t4 = t5 then
      (soft_Sqrt.f a0).bind fun t7 =>
      (halterref02_Sqrt.f a0).bind fun t8 =>
      if t7 = t8 then
        halterlaw02_sure.f.bind fun t10 =>
        some t10
      else
        some false
    else
      some false
  else
    some false
def halterlaw02_SoftParts.R (r : Bool) : Tm := .v (.one (.sc (.bool r)))
theorem halterlaw02_SoftParts.fun_ {a0 : Int} {a1 : Int} {r : Bool} (h : halterlaw02_SoftParts.f a0 a1 = some r) : Fun cfg 3 [.one (.sc (.int .u64 a0)), .one (.sc (.int .u64 a1))] [] (halterlaw02_SoftParts.R r) [] := by
  unfold halterlaw02_SoftParts.f at h
  refine fun_of_run cfg_ok (f := 3) (fn := Try.f3) Try.func3 rfl (by kernel_rfl) (rs := [.tmp 4]) rfl (nt := 31) rfl (l := fin) (k := (.call true [] (Int) (fun t1 => soft_Mul.R t1) (fun t1 => (.call true [] (Int) (fun t2 => halterref02_Mul.R t2) (fun t2 => (.br (.one true (.one true (.call true [] (Int) (fun t4 => soft_Div.R t4) (fun t4 => (.one true (.one true (.one true (.call true [] (Int) (fun t5 => halterref02_Div.R t5) (fun t5 => (.one true (.one true (.br (.one true (.call true [] (Int) (fun t7 => soft_Sqrt.R t7) (fun t7 => (.one true (.one true (.call true [] (Int) (fun t8 => halterref02_Sqrt.R t8) (fun t8 => (.one true (.one true (.br (.call true [] (Bool) (fun t10 => halterlaw02_sure.R t10) (fun t10 => (.one true (.adj [] (.adj [] .nil))))) (.one false (.adj [] (.adj [] .nil))))))))))))) (.one false (.one false (.one false (.one false (.one false (.one false (.one false (.adj [] (.adj [] .nil))))))))))))))))))))) (.one false (.one false (.one false (.one false (.one false (.one false (.one false (.one false (.one false (.one false (.one false (.one false (.one false (.one false (.one false (.adj [] (.adj [] .nil))))))))))))))))))))))) (to_goal (q := (∃ t1 : Int, (Fun cfg 9 [.one (.sc (.int .u64 a0)), .one (.sc (.int .u64 a1))] [] (soft_Mul.R t1) [] ∧ True) ∧ (∃ t2 : Int, (Fun cfg 10 [.one (.sc (.int .u64 a0)), .one (.sc (.int .u64 a1))] [] (halterref02_Mul.R t2) [] ∧ True) ∧ (True) ∧ (((t1 == t2) = true → ((t1 == t2) = true ∧ ((t1 == t2) = true ∧ (∃ t4 : Int, (Fun cfg 11 [.one (.sc (.int .u64 a0)), .one (.sc (.int .u64 a1))] [] (soft_Div.R t4) [] ∧ True) ∧ ((t1 == t2) = true ∧ ((t1 == t2) = true ∧ ((t1 == t2) = true ∧ (∃ t5 : Int, (Fun cfg 12 [.one (.sc (.int .u64 a0)), .one (.sc (.int .u64 a1))] [] (halterref02_Div.R t5) [] ∧ True) ∧ ((t1 == t2) = true ∧ (True) ∧ ((t1 == t2) = true ∧ (((t4 == t5) = true → ((t4 == t5) = true ∧ (∃ t7 : Int, (Fun cfg 13 [.one (.sc (.int .u64 a0))] [] (soft_Sqrt.R t7) [] ∧ True) ∧ ((t4 == t5) = true ∧ ((t4 == t5) = true ∧ (∃ t8 : Int, (Fun cfg 14 [.one (.sc (.int .u64 a0))] [] (halterref02_Sqrt.R t8) [] ∧ True) ∧ ((t4 == t5) = true ∧ (True) ∧ ((t4 == t5) = true ∧ (((t7 == t8) = true → (∃ t10 : Bool, (Fun cfg 15 [] [] (halterlaw02_sure.R t10) [] ∧ True) ∧ ((t7 == t8) = true ∧ (True ∧ ((True) ∧ (True) ∧ (.v (.one (.sc (.bool t10))) : Tm) = halterlaw02_SoftParts.R r ∧ ([] : List Box) = []))))) ∧ ((t7 == t8) = false → ((t7 == t8) = false ∧ (True ∧ ((True) ∧ (True) ∧ (.v (.one (.sc (.bool false))) : Tm) = halterlaw02_SoftParts.R r ∧ ([] : List Box) = []))))))))))))) ∧ ((t4 == t5) = false → ((t4 == t5) = false ∧ ((t4 == t5) = false ∧ ((t4 == t5) = false ∧ ((t4 == t5) = false ∧ ((t4 == t5) = false ∧ (false = false ∧ (false = false ∧ (True ∧ ((True) ∧ (True) ∧ (.v (.one (.sc (.bool false))) : Tm) = halterlaw02_SoftParts.R r ∧ ([] : List Box) = []))))))))))))))))))))) ∧ ((t1 == t2) = false → ((t1 == t2) = false ∧ ((t1 == t2) = false ∧ ((t1 == t2) = false ∧ ((t1 == t2) = false ∧ ((t1 == t2) = false ∧ ((t1 == t2) = false ∧ ((t1 == t2) = false ∧ (false = false ∧ (false = false ∧ (false = false ∧ (false = false ∧ (false = false ∧ (false = false ∧ (false = false ∧ (false = false ∧ (True ∧ ((True) ∧ (True) ∧ (.v (.one (.sc (.bool false))) : Tm) = halterlaw02_SoftParts.R r ∧ ([] : List Box) = [])))))))))))))))))))))) (by kernel_rfl) ?_)
  obtain ⟨t1, ht1, h⟩ := of_bind h
  refine ⟨t1, ⟨soft_Mul.fun_ ht1, trivial⟩, ?_⟩
  obtain ⟨t2, ht2, h⟩ := of_bind h
  refine ⟨t2, ⟨halterref02_Mul.fun_ ht2, trivial⟩, ?_⟩
  refine ⟨trivial, ?_⟩
  refine ⟨fun b3 => ?_, fun b3 => ?_⟩
  · rw [if_pos (beq_t b3)] at h
    refine ⟨b3, ?_⟩
    refine ⟨b3, ?_⟩
    obtain ⟨t4, ht4, h⟩ := of_bind h
    refine ⟨t4, ⟨soft_Div.fun_ ht4, trivial⟩, ?_⟩
    refine ⟨b3, ?_⟩
    refine ⟨b3, ?_⟩
    refine ⟨b3, ?_⟩
    obtain ⟨t5, ht5, h⟩ := of_bind h
    refine ⟨t5, ⟨halterref02_Div.fun_ ht5, trivial⟩, ?_⟩
    refine ⟨b3, ?_⟩
    refine ⟨trivial, ?_⟩
    refine ⟨b3, ?_⟩
    refine ⟨fun b6 => ?_, fun b6 => ?_⟩
    · rw [if_pos (beq_t b6)] at h
      refine ⟨b6, ?_⟩
      obtain ⟨t7, ht7, h⟩ := of_bind h
      refine ⟨t7, ⟨soft_Sqrt.fun_ ht7, trivial⟩, ?_⟩
      refine ⟨b6, ?_⟩
      refine ⟨b6, ?_⟩
      obtain ⟨t8, ht8, h⟩ := of_bind h
      refine ⟨t8, ⟨halterref02_Sqrt.fun_ ht8, trivial⟩, ?_⟩
      refine ⟨b6, ?_⟩
      refine ⟨trivial, ?_⟩
      refine ⟨b6, ?_⟩
      refine ⟨fun b9 => ?_, fun b9 => ?_⟩
      · rw [if_pos (beq_t b9)] at h
        obtain ⟨t10, ht10, h⟩ := of_bind h
        refine ⟨t10, ⟨halterlaw02_sure.fun_ ht10, trivial⟩, ?_⟩
        refine ⟨b9, ?_⟩
        refine ⟨trivial, ?_⟩
        obtain rfl := Option.some.inj h
        exact ⟨trivial, trivial, rfl, rfl⟩
      · rw [if_neg (beq_f b9)] at h
        refine ⟨b9, ?_⟩
        refine ⟨trivial, ?_⟩
        obtain rfl := Option.some.inj h
        exact ⟨trivial, trivial, rfl, rfl⟩
    · rw [if_neg (beq_f b6)] at h
      refine ⟨b6, ?_⟩
      refine ⟨b6, ?_⟩
      refine ⟨b6, ?_⟩
      refine ⟨b6, ?_⟩
      refine ⟨b6, ?_⟩
      refine ⟨rfl, ?_⟩
      refine ⟨rfl, ?_⟩
      refine ⟨trivial, ?_⟩
      obtain rfl := Option.some.inj h
      exact ⟨trivial, trivial, rfl, rfl⟩
  · rw [if_neg (beq_f b3)] at h
    refine ⟨b3, ?_⟩
    refine ⟨b3, ?_⟩
    refine ⟨b3, ?_⟩
    refine ⟨b3, ?_⟩
    refine ⟨b3, ?_⟩
    refine ⟨b3, ?_⟩
    refine ⟨b3, ?_⟩
    refine ⟨rfl, ?_⟩
    refine ⟨rfl, ?_⟩
    refine ⟨rfl, ?_⟩
    refine ⟨rfl, ?_⟩
    refine ⟨rfl, ?_⟩
    refine ⟨rfl, ?_⟩
    refine ⟨rfl, ?_⟩
    refine ⟨rfl, ?_⟩
    refine ⟨trivial, ?_⟩
    obtain rfl := Option.some.inj h
    exact ⟨trivial, trivial, rfl, rfl⟩
end Go.Proofs.YtkaehhfdjenmcaaGSoftParts
