/- What is known of floats by their bits: two functions' contracts, proved by hand. -/
import Derived.Test.YtfoejbiifolnnaaDoorProg
import Derived.WalkKit
import Derived.RowKitTokens
import Derived.WideLaws
import Derived.Below
import Derived.Laws.FloatArith
set_option linter.unusedVariables false
set_option linter.unusedSimpArgs false
set_option linter.unnecessarySimpa false
namespace Go.Proofs.YtfoejbiifolnnaaDoorF
open Go Go.RowKit Go.Extern
section
open Go.Extern.MathFloatBits
set_option maxHeartbeats 4000000 in
theorem value_calls (a : Int) (w : World) : Calls Tryd.prog 57 #[.int .u64 a] w fun e w' => e = .returned (.float .f64 a.toNat) ∧ w' = w := by
  have h := @run_callFunc_extern Tryd.prog 74 _ float64frombits Tryd.func74 (by kernel_rfl) (by kernel_rfl) (by kernel_rfl) (by kernel_rfl)
  have h2 : ∀ (n : Int) (w : World), (float64frombits #[.int .u64 n]).run Tryd.prog w = .ok (.float .f64 n.toNat) w := fun n w => rfl
  go_enter Tryd.func57, Tryd.ntmps57
  go_wp2
  go_ret
  exact ⟨rfl, rfl⟩
set_option maxHeartbeats 4000000 in
theorem of_calls (b : Nat) (w : World) : Calls Tryd.prog 56 #[.float .f64 b] w fun e w' => e = .returned (.int .u64 (if FloatKind.f64.format.order b b = some .eq then (b : Int) else 9221120237041090560)) ∧ w' = w := by
  have h := @run_callFunc_extern Tryd.prog 73 _ float64bits Tryd.func73 (by kernel_rfl) (by kernel_rfl) (by kernel_rfl) (by kernel_rfl)
  have h2 : ∀ (n : Nat) (w : World), (float64bits #[.float .f64 n]).run Tryd.prog w = .ok (.int .u64 n) w := fun n w => rfl
  by_cases ho : FloatKind.f64.format.order b b = some .eq
  · rw [if_pos ho]
    go_enter Tryd.func56, Tryd.ntmps56
    go_wp2
    all_goals first | (go_ret; exact ⟨rfl, rfl⟩) | (exfalso; simp_all)
  · rw [if_neg ho]
    go_enter Tryd.func56, Tryd.ntmps56
    go_wp2
    all_goals first | (go_ret; exact ⟨rfl, rfl⟩) | (exfalso; simp_all)
end
def soft_Div.f (a0 a1 : Int) : Option Int := (floatBits .quo .f64 a0.toNat a1.toNat).bind fun b => some (if FloatKind.f64.format.order b b = some .eq then (b : Int) else 9221120237041090560)
set_option maxHeartbeats 4000000 in
theorem soft_Div.calls (a0 a1 r : Int) (w : World) (h : soft_Div.f a0 a1 = some r) : Calls Tryd.prog 33 #[.int .u64 a0, .int .u64 a1] w fun e w' => e = .returned (.int .u64 r) ∧ Below w.heap.size w w' := by
  unfold soft_Div.f at h
  cases hb : floatBits .quo .f64 a0.toNat a1.toNat with
  | none => rw [hb] at h; cases h
  | some b =>
    rw [hb] at h
    obtain rfl := Option.some.inj h
    clear h
    have hr := fun t => run_float_arith (P := Tryd.prog) w .quo t .f64 a0.toNat a1.toNat b hb
    go_enter Tryd.func33, Tryd.ntmps33
    go_wp2_with (first | (go_at_call 57; refine (value_calls _ _).mono ?_; rintro e w' ⟨rfl, rfl⟩) | (go_at_call 56; refine (of_calls _ _).mono ?_; rintro e w' ⟨rfl, rfl⟩))
    all_goals (go_ret; exact ⟨rfl, Below.refl _ _⟩)
def soft_Cmp.f (a0 a1 : Int) : Option Int := some (match FloatKind.f64.format.order a0.toNat a1.toNat with | some .lt => -1 | some .gt => 1 | some .eq => 0 | none => 2)
set_option maxHeartbeats 4000000 in
theorem soft_Cmp.calls (a0 a1 r : Int) (w : World) (h : soft_Cmp.f a0 a1 = some r) : Calls Tryd.prog 41 #[.int .u64 a0, .int .u64 a1] w fun e w' => e = .returned (.int .i64 r) ∧ Below w.heap.size w w' := by
  unfold soft_Cmp.f at h
  obtain rfl := Option.some.inj h
  clear h
  cases ho : FloatKind.f64.format.order a0.toNat a1.toNat with
  | none =>
    go_enter Tryd.func41, Tryd.ntmps41
    go_wp2_with (go_at_call 57; refine (value_calls _ _).mono ?_; rintro e w' ⟨rfl, rfl⟩)
    all_goals (go_ret; exact ⟨rfl, Below.refl _ _⟩)
  | some o =>
    cases o
    · go_enter Tryd.func41, Tryd.ntmps41
      go_wp2_with (go_at_call 57; refine (value_calls _ _).mono ?_; rintro e w' ⟨rfl, rfl⟩)
      all_goals (go_ret; exact ⟨rfl, Below.refl _ _⟩)
    · go_enter Tryd.func41, Tryd.ntmps41
      go_wp2_with (go_at_call 57; refine (value_calls _ _).mono ?_; rintro e w' ⟨rfl, rfl⟩)
      all_goals (go_ret; exact ⟨rfl, Below.refl _ _⟩)
    · go_enter Tryd.func41, Tryd.ntmps41
      go_wp2_with (go_at_call 57; refine (value_calls _ _).mono ?_; rintro e w' ⟨rfl, rfl⟩)
      all_goals (go_ret; exact ⟨rfl, Below.refl _ _⟩)
end Go.Proofs.YtfoejbiifolnnaaDoorF
