/- Printed by gen.py: what functions of the program compute, in plain Lean, and that they do. -/
import Derived.Test.YtbpaijnlapedlaaDoorE15
import Derived.Test.YtbpaijnlapedlaaDoorN
set_option linter.unusedVariables false
set_option maxRecDepth 100000
namespace Go.Proofs.YtbpaijnlapedlaaDoorGFdsSteps
open Go Go.Proofs.YtbpaijnlapedlaaDoorE
def tiL : List (Nat × TI) := [
  (3, ⟨1, 8, false, .int .i64, [.c (.sc (.int .i64 (0 : Int)))], some (.int .i64)⟩),
  (4, ⟨1, 1, false, .bool, [.c (.sc (.bool false))], some .bool⟩),
  (22, ⟨8, 64, true, (.array 8 3), [.row 8 (.int .i64) (List.replicate 8 (0 : Int))], some (.arr 8 (.int .i64))⟩),
  (24, ⟨8, 64, true, (.struct [(0, 22)]), [.row 8 (.int .i64) (List.replicate 8 (0 : Int))], some (.arr 8 (.int .i64))⟩),
  (26, ⟨1, 16, false, .iface, [.c (.err none)], none⟩),
  (36, ⟨1, 24, false, (.slice 3), [.c (.sc (.slice none 0 0))], some (.sl (.int .i64))⟩),
  (47, ⟨1, 8, false, .int .i64, [.c (.sc (.int .i64 (0 : Int)))], some (.int .i64)⟩)]
noncomputable def cfg : Cfg := ⟨Tryd.prog, 47, [(⟨0, 0, none⟩, .iface 64 (.agg #[.pointer (some ⟨1, 26, none⟩)]))], tiL, [22]⟩
theorem cfg_ok : COk cfg := by
  refine ⟨fun p hp => ?_, by kernel_rfl, fun p hp => ?_, fun t ht => ?_⟩
  · simp only [cfg, tiL, List.mem_cons, List.not_mem_nil, or_false] at hp
    rcases hp with rfl | rfl | rfl | rfl | rfl | rfl | rfl <;> exact ⟨by kernel_rfl, by kernel_rfl, by kernel_rfl, by kernel_rfl, by kernel_rfl, by kernel_rfl⟩
  · simp only [cfg, tiL, List.mem_cons, List.not_mem_nil, or_false] at hp
    rcases hp with rfl | rfl | rfl | rfl | rfl | rfl | rfl <;> intro fs hfs bl hbl
    · cases hfs
    · cases hfs
    · cases hfs
    · cases hfs
      have e : fieldsZ cfg.L 0 [(0, 22)] = some [[.row 8 (.int .i64) (List.replicate 8 (0 : Int))]] := by kernel_rfl
      rw [e] at hbl
      cases hbl
      exact (by kernel_rfl : encPs (List.flatten [[.row 8 (.int .i64) (List.replicate 8 (0 : Int))]]) = encPs [.row 8 (.int .i64) (List.replicate 8 (0 : Int))])
    · cases hfs
    · cases hfs
    · cases hfs
  · simp only [cfg, List.mem_cons, List.not_mem_nil, or_false] at ht
    rcases ht with rfl <;> kernel_rfl
def fin : Scr → List Adj
  | .adj l _ => l
  | _ => []
/-! the error's number -/
def num.f (a0 : Option Int) : Option Int := some (a0.getD 0)
def num.R (r : Int) : Tm := .v (.one (.sc (.int .i64 r)))
theorem num.fun_ {a0 : Option Int} {r : Int} (h : num.f a0 = some r) : Fun cfg 16 [.one (.err a0)] [] (num.R r) [] := by
  refine Fun.of_below (f := 16) (fn := Tryd.f16) Tryd.func16 rfl (by kernel_rfl) (r := .int .i64 r) (fun X => ⟨⟨rfl, rfl⟩, rfl⟩) fun X vs hE hvs hG => ?_
  obtain ⟨v, us, rfl, hv, rfl⟩ := hvs
  have hv : v = errV X.E a0 := hv.1
  have he : errV cfg.E a0 = YtbpaijnlapedlaaDoorN.errW a0 := by cases a0 <;> rfl
  rw [hv, hE, he]
  exact YtbpaijnlapedlaaDoorN.num.calls a0 r X.w (hG _ (List.mem_cons_self ..)) h
/-! halter/fds.Check -/
def fds_Check.l0 (a0 : (List Int)) : Nat → Int → Option ((Unit) ⊕ (Unit))
  | 0, _ => none
  | n + 1, x1 =>
    if x1 < (8 : Int) then
      if 0 ≤ x1 ∧ x1 < ((8 : Nat) : Int) then
        if (List.getD a0 (Int.toNat x1) (0 : Int)) < (0 : Int) then
          some (.inr ())
        else
          if (List.getD a0 (Int.toNat x1) (0 : Int)) > (32 : Int) then
            some (.inr ())
          else
            fds_Check.l0 a0 n (IntKind.wrap .i64 (x1 + (1 : Int)))
      else none
    else
      some (.inl ())
def fds_Check.l0_S (a0 : (List Int)) (x1 : Int) : St := ⟨[.any, .any, .any, .any, .any, .any, .v (.agg [.row 8 (.int .i64) a0]), .v (.one (.sc (.int .i64 x1))), .any, .any, .any, .any, .any, .any, .any, .any, .any, .any], [.ex false [.row 8 (.int .i64) a0] 24], 0⟩
def fds_Check.l0_Q (a0 : (List Int)) : (Unit) ⊕ (Unit) → Exit → St → Prop
  | .inl t => fun e s => e = (.exit 0) ∧ s = ⟨[.any, .any, .any, .any, .any, .any, .any, .any, .any, .any, .any, .any, .any, .any, .any, .any, .any, .any], [.ex false [.row 8 (.int .i64) a0] 24], 0⟩
  | .inr t => fun e s => e = .ret ∧ s = ⟨[.any, .any, .v (.one (.err (some (22 : Int)))), .any, .any, .any, .any, .any, .any, .any, .any, .any, .any, .any, .any, .any, .any, .any], [.ex false [.row 8 (.int .i64) a0] 24], 0⟩
theorem fds_Check.l0_ok (a0 : (List Int)) : ∀ (n : Nat) (x1 : Int) (r : (Unit) ⊕ (Unit)), fds_Check.l0 a0 n x1 = some r → TripN cfg (cpath (Tryd.f20.body.getD .skip) [1, 0, 1, 0, 0]) n (fds_Check.l0_S a0 x1) (fds_Check.l0_Q a0 r)
  | 0, _, r, h => by cases h
  | n + 1, x1, r, h => by
    rw [fds_Check.l0] at h
    refine TripN.of_run cfg_ok (k := (.br (.br (.one true (.one true (.one true (.adj [] (.adj [.keep [2], .drop 1] .nil))))) (.one false (.one false (.br (.adj [] (.adj [.keep [2], .drop 1] .nil)) (.adj [] (.adj [] (.adj [.keep [6, 7], .drop 1] .nil))))))) (.adj [.keep [], .drop 1] .nil))) (to_goal (q := (True) ∧ (((decide (x1 < (8 : Int))) = true → (0 ≤ x1 ∧ x1 < ((8 : Nat) : Int)) ∧ (True) ∧ (((decide ((List.getD a0 (Int.toNat x1) (0 : Int)) < (0 : Int))) = false → ((decide ((List.getD a0 (Int.toNat x1) (0 : Int)) < (0 : Int))) = false ∧ (True) ∧ ((decide ((List.getD a0 (Int.toNat x1) (0 : Int)) < (0 : Int))) = false ∧ (((decide ((List.getD a0 (Int.toNat x1) (0 : Int)) > (32 : Int))) = true → (True ∧ (((True) ∧ (True) ∧ True) ∧ fds_Check.l0_Q a0 r .ret ⟨[.any, .any, .v (.one (.err (some (22 : Int)))), .any, .any, .any, .any, .any, .any, .any, .any, .any, .any, .any, .any, .any, .any, .any], [.ex false [.row 8 (.int .i64) a0] 24], 0⟩))) ∧ ((decide ((List.getD a0 (Int.toNat x1) (0 : Int)) > (32 : Int))) = false → (True ∧ (True ∧ (True) ∧ (((True) ∧ (True) ∧ True) ∧ TripN cfg (cpath (Tryd.f20.body.getD .skip) [1, 0, 1, 0, 0]) n (fds_Check.l0_S a0 (IntKind.wrap .i64 (x1 + (1 : Int)))) (fds_Check.l0_Q a0 r))))))))) ∧ ((decide ((List.getD a0 (Int.toNat x1) (0 : Int)) < (0 : Int))) = true → ((decide ((List.getD a0 (Int.toNat x1) (0 : Int)) < (0 : Int))) = true ∧ ((decide ((List.getD a0 (Int.toNat x1) (0 : Int)) < (0 : Int))) = true ∧ (true = true ∧ (True ∧ (((True) ∧ (True) ∧ True) ∧ fds_Check.l0_Q a0 r .ret ⟨[.any, .any, .v (.one (.err (some (22 : Int)))), .any, .any, .any, .any, .any, .any, .any, .any, .any, .any, .any, .any, .any, .any, .any], [.ex false [.row 8 (.int .i64) a0] 24], 0⟩)))))))) ∧ ((decide (x1 < (8 : Int))) = false → (((True) ∧ (True) ∧ True) ∧ fds_Check.l0_Q a0 r (.exit 0) ⟨[.any, .any, .any, .any, .any, .any, .any, .any, .any, .any, .any, .any, .any, .any, .any, .any, .any, .any], [.ex false [.row 8 (.int .i64) a0] 24], 0⟩)))) (by kernel_rfl) ?_)
    refine ⟨trivial, ?_⟩
    refine ⟨fun b7 => ?_, fun b7 => ?_⟩
    · rw [if_pos (of_decide_eq_true b7)] at h
      obtain ⟨g10, h⟩ := of_guard h
      refine ⟨g10, ?_⟩
      refine ⟨trivial, ?_⟩
      refine ⟨fun b8 => ?_, fun b8 => ?_⟩
      · rw [if_neg (of_decide_eq_false b8)] at h
        refine ⟨b8, ?_⟩
        refine ⟨trivial, ?_⟩
        refine ⟨b8, ?_⟩
        refine ⟨fun b9 => ?_, fun b9 => ?_⟩
        · rw [if_pos (of_decide_eq_true b9)] at h
          refine ⟨trivial, ?_⟩
          obtain rfl := Option.some.inj h
          exact ⟨⟨trivial, trivial, trivial⟩, rfl, rfl⟩
        · rw [if_neg (of_decide_eq_false b9)] at h
          refine ⟨trivial, ?_⟩
          refine ⟨trivial, ?_⟩
          refine ⟨trivial, ?_⟩
          exact ⟨⟨trivial, trivial, trivial⟩, fds_Check.l0_ok a0 n (IntKind.wrap .i64 (x1 + (1 : Int))) r h⟩
      · rw [if_pos (of_decide_eq_true b8)] at h
        refine ⟨b8, ?_⟩
        refine ⟨b8, ?_⟩
        refine ⟨rfl, ?_⟩
        refine ⟨trivial, ?_⟩
        obtain rfl := Option.some.inj h
        exact ⟨⟨trivial, trivial, trivial⟩, rfl, rfl⟩
    · rw [if_neg (of_decide_eq_false b7)] at h
      obtain rfl := Option.some.inj h
      exact ⟨⟨trivial, trivial, trivial⟩, rfl, rfl⟩
def fds_Check.f (a0 : (List Int)) : Option (Option Int) :=
  (fds_Check.l0 a0 FUEL (0 : Int)).bind fun t6 =>
  match t6 with
  | .inl t11 =>
    some none
  | .inr t12 =>
    some (some (22 : Int))
def fds_Check.R (r : (Option Int)) : Tm := .v (.one (.err r))
theorem fds_Check.fun_ {a0 : (List Int)} {r : (Option Int)} (h : fds_Check.f a0 = some r) : Fun cfg 20 [.agg [.row 8 (.int .i64) a0]] [] (fds_Check.R r) [] := by
  unfold fds_Check.f at h
  refine fun_of_run cfg_ok (f := 20) (fn := Tryd.f20) Tryd.func20 rfl (by kernel_rfl) (rs := [.tmp 2]) rfl (nt := 18) rfl (l := fin) (k := (.adj [] (.adj [] (.adj [.keep [6, 7]] (.alt (.sub (Unit) (fun _ => (.exit 0)) (fun t11 => ⟨[.any, .any, .any, .any, .any, .any, .any, .any, .any, .any, .any, .any, .any, .any, .any, .any, .any, .any], [.ex false [.row 8 (.int .i64) a0] 24], 0⟩) (fun t11 => (.adj [] (.adj [] (.adj [.drop 0] .nil))))) (.sub (Unit) (fun _ => .ret) (fun t12 => ⟨[.any, .any, .v (.one (.err (some (22 : Int)))), .any, .any, .any, .any, .any, .any, .any, .any, .any, .any, .any, .any, .any, .any, .any], [.ex false [.row 8 (.int .i64) a0] 24], 0⟩) (fun t12 => (.adj [.drop 0] .nil)))))))) (to_goal (q := (True ∧ (True ∧ (True) ∧ (((True) ∧ True) ∧ ((∃ t11 : Unit, Trip cfg (.loop (cpath (Tryd.f20.body.getD .skip) [1, 0, 1, 0, 0])) ⟨[.any, .any, .any, .any, .any, .any, .v (.agg [.row 8 (.int .i64) a0]), .v (.one (.sc (.int .i64 (0 : Int)))), .any, .any, .any, .any, .any, .any, .any, .any, .any, .any], [.ex false [.row 8 (.int .i64) a0] 24], 0⟩ (fun e s => e = (.exit 0) ∧ s = ⟨[.any, .any, .any, .any, .any, .any, .any, .any, .any, .any, .any, .any, .any, .any, .any, .any, .any, .any], [.ex false [.row 8 (.int .i64) a0] 24], 0⟩) ∧ (True ∧ (True ∧ ((True) ∧ ((True) ∧ True) ∧ (.v (.one (.err none)) : Tm) = fds_Check.R r ∧ ([] : List Box) = [])))) ∨ (∃ t12 : Unit, Trip cfg (.loop (cpath (Tryd.f20.body.getD .skip) [1, 0, 1, 0, 0])) ⟨[.any, .any, .any, .any, .any, .any, .v (.agg [.row 8 (.int .i64) a0]), .v (.one (.sc (.int .i64 (0 : Int)))), .any, .any, .any, .any, .any, .any, .any, .any, .any, .any], [.ex false [.row 8 (.int .i64) a0] 24], 0⟩ (fun e s => e = .ret ∧ s = ⟨[.any, .any, .v (.one (.err (some (22 : Int)))), .any, .any, .any, .any, .any, .any, .any, .any, .any, .any, .any, .any, .any, .any, .any], [.ex false [.row 8 (.int .i64) a0] 24], 0⟩) ∧ ((True) ∧ ((True) ∧ True) ∧ (.v (.one (.err (some (22 : Int)))) : Tm) = fds_Check.R r ∧ ([] : List Box) = []))))))) (by kernel_rfl) ?_)
  refine ⟨trivial, ?_⟩
  refine ⟨trivial, ?_⟩
  refine ⟨trivial, ?_⟩
  obtain ⟨t6, ht6, h⟩ := of_bind h
  refine ⟨⟨trivial, trivial⟩, ?_⟩
  rcases t6 with t11 | t12
  · dsimp only at h
    left
    refine ⟨t11, Trip.loop FUEL (fds_Check.l0_ok a0 FUEL (0 : Int) (.inl t11) ht6), ?_⟩
    refine ⟨trivial, ?_⟩
    refine ⟨trivial, ?_⟩
    obtain rfl := Option.some.inj h
    exact ⟨trivial, ⟨trivial, trivial⟩, rfl, rfl⟩
  · dsimp only at h
    right
    refine ⟨t12, Trip.loop FUEL (fds_Check.l0_ok a0 FUEL (0 : Int) (.inr t12) ht6), ?_⟩
    obtain rfl := Option.some.inj h
    exact ⟨trivial, ⟨trivial, trivial⟩, rfl, rfl⟩
/-! slices.Index[[]int,int] -/
def slices_Index_int_int.l0 (a0 : (List Int)) (a1 : Int) : Nat → Int → Option ((Unit) ⊕ (Int))
  | 0, _ => none
  | n + 1, x1 =>
    if x1 < (((List.length a0) : Nat) : Int) then
      if 0 ≤ x1 ∧ x1 < (((List.length a0) : Nat) : Int) then
        if a1 = (List.getD a0 (Int.toNat x1) (0 : Int)) then
          some (.inr x1)
        else
          slices_Index_int_int.l0 a0 a1 n (IntKind.wrap .i64 (x1 + (1 : Int)))
      else none
    else
      some (.inl ())
def slices_Index_int_int.l0_S (a0 : (List Int)) (a1 : Int) (x1 : Int) : St := ⟨[.v (.one (.fs (.int .i64) a0 false)), .v (.one (.sc (.int .i64 a1))), .any, .any, .any, .any, .any, .v (.one (.sc (.int .i64 (((List.length a0) : Nat) : Int)))), .v (.one (.sc (.int .i64 x1))), .any, .any, .any, .any, .any, .any, .any, .any, .any, .any], [], 0⟩
def slices_Index_int_int.l0_Q (a0 : (List Int)) (a1 : Int) : (Unit) ⊕ (Int) → Exit → St → Prop
  | .inl t => fun e s => e = (.exit 0) ∧ s = ⟨[.any, .any, .any, .any, .any, .any, .any, .any, .any, .any, .any, .any, .any, .any, .any, .any, .any, .any, .any], [], 0⟩
  | .inr t => fun e s => e = .ret ∧ s = ⟨[.any, .any, .any, .any, .v (.one (.sc (.int .i64 t))), .any, .any, .any, .any, .any, .any, .any, .any, .any, .any, .any, .any, .any, .any], [], 0⟩
theorem slices_Index_int_int.l0_ok (a0 : (List Int)) (a1 : Int) : ∀ (n : Nat) (x1 : Int) (r : (Unit) ⊕ (Int)), slices_Index_int_int.l0 a0 a1 n x1 = some r → TripN cfg (cpath (Tryd.f22.body.getD .skip) [1, 0, 1, 0, 0]) n (slices_Index_int_int.l0_S a0 a1 x1) (slices_Index_int_int.l0_Q a0 a1 r)
  | 0, _, r, h => by cases h
  | n + 1, x1, r, h => by
    rw [slices_Index_int_int.l0] at h
    refine TripN.of_run cfg_ok (k := (.br (.br (.adj [] (.adj [.keep [4], .drop 0] .nil)) (.adj [] (.adj [] (.adj [.keep [0, 1, 7, 8], .drop 0] .nil)))) (.adj [.keep [], .drop 0] .nil))) (to_goal (q := (True) ∧ (((decide (x1 < (((List.length a0) : Nat) : Int))) = true → (0 ≤ x1 ∧ x1 < (((List.length a0) : Nat) : Int)) ∧ (True) ∧ (True) ∧ (((a1 == (List.getD a0 (Int.toNat x1) (0 : Int))) = true → (True ∧ (((True) ∧ (True) ∧ True) ∧ slices_Index_int_int.l0_Q a0 a1 r .ret ⟨[.any, .any, .any, .any, .v (.one (.sc (.int .i64 x1))), .any, .any, .any, .any, .any, .any, .any, .any, .any, .any, .any, .any, .any, .any], [], 0⟩))) ∧ ((a1 == (List.getD a0 (Int.toNat x1) (0 : Int))) = false → (True ∧ (True ∧ (True) ∧ (((True) ∧ (True) ∧ True) ∧ TripN cfg (cpath (Tryd.f22.body.getD .skip) [1, 0, 1, 0, 0]) n (slices_Index_int_int.l0_S a0 a1 (IntKind.wrap .i64 (x1 + (1 : Int)))) (slices_Index_int_int.l0_Q a0 a1 r))))))) ∧ ((decide (x1 < (((List.length a0) : Nat) : Int))) = false → (((True) ∧ (True) ∧ True) ∧ slices_Index_int_int.l0_Q a0 a1 r (.exit 0) ⟨[.any, .any, .any, .any, .any, .any, .any, .any, .any, .any, .any, .any, .any, .any, .any, .any, .any, .any, .any], [], 0⟩)))) (by kernel_rfl) ?_)
    refine ⟨trivial, ?_⟩
    refine ⟨fun b7 => ?_, fun b7 => ?_⟩
    · rw [if_pos (of_decide_eq_true b7)] at h
      obtain ⟨g9, h⟩ := of_guard h
      refine ⟨g9, ?_⟩
      refine ⟨trivial, ?_⟩
      refine ⟨trivial, ?_⟩
      refine ⟨fun b8 => ?_, fun b8 => ?_⟩
      · rw [if_pos (beq_t b8)] at h
        refine ⟨trivial, ?_⟩
        obtain rfl := Option.some.inj h
        exact ⟨⟨trivial, trivial, trivial⟩, rfl, rfl⟩
      · rw [if_neg (beq_f b8)] at h
        refine ⟨trivial, ?_⟩
        refine ⟨trivial, ?_⟩
        refine ⟨trivial, ?_⟩
        exact ⟨⟨trivial, trivial, trivial⟩, slices_Index_int_int.l0_ok a0 a1 n (IntKind.wrap .i64 (x1 + (1 : Int))) r h⟩
    · rw [if_neg (of_decide_eq_false b7)] at h
      obtain rfl := Option.some.inj h
      exact ⟨⟨trivial, trivial, trivial⟩, rfl, rfl⟩
def slices_Index_int_int.f (a0 : (List Int)) (a1 : Int) : Option Int :=
  (slices_Index_int_int.l0 a0 a1 FUEL (0 : Int)).bind fun t6 =>
  match t6 with
  | .inl t11 =>
    some (-1 : Int)
  | .inr t12 =>
    some t12
def slices_Index_int_int.R (r : Int) : Tm := .v (.one (.sc (.int .i64 r)))
theorem slices_Index_int_int.fun_ {a0 : (List Int)} {a1 : Int} {r : Int} (h : slices_Index_int_int.f a0 a1 = some r) : Fun cfg 22 [.one (.fs (.int .i64) a0 false), .one (.sc (.int .i64 a1))] [] (slices_Index_int_int.R r) [] := by
  unfold slices_Index_int_int.f at h
  refine fun_of_run cfg_ok (f := 22) (fn := Tryd.f22) Tryd.func22 rfl (by kernel_rfl) (rs := [.tmp 4]) rfl (nt := 19) rfl (l := fin) (k := (.adj [] (.adj [] (.adj [.keep [0, 1, 7, 8]] (.alt (.sub (Unit) (fun _ => (.exit 0)) (fun t11 => ⟨[.any, .any, .any, .any, .any, .any, .any, .any, .any, .any, .any, .any, .any, .any, .any, .any, .any, .any, .any], [], 0⟩) (fun t11 => (.adj [] (.adj [] (.adj [] .nil))))) (.sub (Int) (fun _ => .ret) (fun t12 => ⟨[.any, .any, .any, .any, .v (.one (.sc (.int .i64 t12))), .any, .any, .any, .any, .any, .any, .any, .any, .any, .any, .any, .any, .any, .any], [], 0⟩) (fun t12 => (.adj [] .nil)))))))) (to_goal (q := (True ∧ (True ∧ (True) ∧ (((True) ∧ True) ∧ ((∃ t11 : Unit, Trip cfg (.loop (cpath (Tryd.f22.body.getD .skip) [1, 0, 1, 0, 0])) ⟨[.v (.one (.fs (.int .i64) a0 false)), .v (.one (.sc (.int .i64 a1))), .any, .any, .any, .any, .any, .v (.one (.sc (.int .i64 (((List.length a0) : Nat) : Int)))), .v (.one (.sc (.int .i64 (0 : Int)))), .any, .any, .any, .any, .any, .any, .any, .any, .any, .any], [], 0⟩ (fun e s => e = (.exit 0) ∧ s = ⟨[.any, .any, .any, .any, .any, .any, .any, .any, .any, .any, .any, .any, .any, .any, .any, .any, .any, .any, .any], [], 0⟩) ∧ (True ∧ (True ∧ ((True) ∧ (True) ∧ (.v (.one (.sc (.int .i64 (-1 : Int)))) : Tm) = slices_Index_int_int.R r ∧ ([] : List Box) = [])))) ∨ (∃ t12 : Int, Trip cfg (.loop (cpath (Tryd.f22.body.getD .skip) [1, 0, 1, 0, 0])) ⟨[.v (.one (.fs (.int .i64) a0 false)), .v (.one (.sc (.int .i64 a1))), .any, .any, .any, .any, .any, .v (.one (.sc (.int .i64 (((List.length a0) : Nat) : Int)))), .v (.one (.sc (.int .i64 (0 : Int)))), .any, .any, .any, .any, .any, .any, .any, .any, .any, .any], [], 0⟩ (fun e s => e = .ret ∧ s = ⟨[.any, .any, .any, .any, .v (.one (.sc (.int .i64 t12))), .any, .any, .any, .any, .any, .any, .any, .any, .any, .any, .any, .any, .any, .any], [], 0⟩) ∧ ((True) ∧ (True) ∧ (.v (.one (.sc (.int .i64 t12))) : Tm) = slices_Index_int_int.R r ∧ ([] : List Box) = []))))))) (by kernel_rfl) ?_)
  refine ⟨trivial, ?_⟩
  refine ⟨trivial, ?_⟩
  refine ⟨trivial, ?_⟩
  obtain ⟨t6, ht6, h⟩ := of_bind h
  refine ⟨⟨trivial, trivial⟩, ?_⟩
  rcases t6 with t11 | t12
  · dsimp only at h
    left
    refine ⟨t11, Trip.loop FUEL (slices_Index_int_int.l0_ok a0 a1 FUEL (0 : Int) (.inl t11) ht6), ?_⟩
    refine ⟨trivial, ?_⟩
    refine ⟨trivial, ?_⟩
    obtain rfl := Option.some.inj h
    exact ⟨trivial, trivial, rfl, rfl⟩
  · dsimp only at h
    right
    refine ⟨t12, Trip.loop FUEL (slices_Index_int_int.l0_ok a0 a1 FUEL (0 : Int) (.inr t12) ht6), ?_⟩
    obtain rfl := Option.some.inj h
    exact ⟨trivial, trivial, rfl, rfl⟩
/-! halter/fds.Put -/
def fds_Put.f (a0 : (List Int)) (a1 : Int) : Option (Int × (List Int) × (Option Int)) :=
  (fds_Check.f a0).bind fun t1 =>
  if ¬ (t1 = none) then
    some ((0 : Int), (List.replicate 8 (0 : Int)), (some (22 : Int)))
  else
    if a1 < (0 : Int) then
      some ((0 : Int), (List.replicate 8 (0 : Int)), (some (22 : Int)))
    else
      if a1 ≥ (32 : Int) then
        some ((0 : Int), (List.replicate 8 (0 : Int)), (some (22 : Int)))
      else
        (slices_Index_int_int.f (List.take 8 a0) (0 : Int)).bind fun t5 =>
        if t5 < (0 : Int) then
          some ((0 : Int), (List.replicate 8 (0 : Int)), (some (24 : Int)))
        else
          if 0 ≤ t5 ∧ t5 < ((8 : Nat) : Int) then
            if (Int.toNat t5) < 8 then
              some (t5, (List.set a0 (Int.toNat t5) (IntKind.wrap .i64 (a1 + (1 : Int)))), none)
            else none
          else none
def fds_Put.R (r : Int × (List Int) × (Option Int)) : Tm := .tup [.one (.sc (.int .i64 r.1)), .agg [.row 8 (.int .i64) r.2.1], .one (.err r.2.2)]
theorem fds_Put.fun_ {a0 : (List Int)} {a1 : Int} {r : Int × (List Int) × (Option Int)} (h : fds_Put.f a0 a1 = some r) : Fun cfg 6 [.agg [.row 8 (.int .i64) a0], .one (.sc (.int .i64 a1))] [] (fds_Put.R r) [] := by
  unfold fds_Put.f at h
  refine fun_of_run cfg_ok (f := 6) (fn := Tryd.f6) Tryd.func6 rfl (by kernel_rfl) (rs := [.tmp 4, .cell 5 24, .tmp 6]) rfl (nt := 35) rfl (l := fin) (k := (.call true [] ((Option Int)) (fun t1 => fds_Check.R t1) (fun t1 => (.br (.one true (.one true (.one true (.one true (.one true (.one true (.adj [] (.adj [] (.adj [.drop 0] .nil))))))))) (.one false (.one false (.br (.one true (.one true (.one true (.adj [] (.adj [] (.adj [.drop 0] .nil)))))) (.one false (.one false (.br (.adj [] (.adj [] (.adj [.drop 0] .nil))) (.call false [] (Int) (fun t5 => slices_Index_int_int.R t5) (fun t5 => (.br (.adj [] (.adj [] (.adj [.drop 0] .nil))) (.dr [(0, ⟨none, .no⟩), (1, ⟨none, .no⟩), (2, ⟨none, .no⟩), (3, ⟨none, .no⟩), (4, ⟨none, .no⟩)] (.adj [] (.adj [.drop 0] .nil)))))))))))))))) (to_goal (q := (True) ∧ (∃ t1 : (Option Int), (Fun cfg 20 [.agg [.row 8 (.int .i64) a0]] [] (fds_Check.R t1) [] ∧ True) ∧ (True) ∧ (((!(Option.isNone t1)) = false → ((!(Option.isNone t1)) = false ∧ (True) ∧ ((!(Option.isNone t1)) = false ∧ (((decide (a1 < (0 : Int))) = false → ((decide (a1 < (0 : Int))) = false ∧ (True) ∧ ((decide (a1 < (0 : Int))) = false ∧ (((decide (a1 ≥ (32 : Int))) = true → (True ∧ (True) ∧ (True ∧ (((True) ∧ True) ∧ ((True) ∧ True) ∧ (.tup [.one (.sc (.int .i64 (0 : Int))), .agg [.row 8 (.int .i64) (List.replicate 8 (0 : Int))], .one (.err (some (22 : Int)))] : Tm) = fds_Put.R r ∧ ([] : List Box) = [])))) ∧ ((decide (a1 ≥ (32 : Int))) = false → ((True) ∧ (True) ∧ (True) ∧ (false = true → false = true)) ∧ (∃ t5 : Int, ((0 + 8 ≤ 8) ∧ Fun cfg 22 [.one (.fs (.int .i64) (List.take 8 a0) false), .one (.sc (.int .i64 (0 : Int)))] [] (slices_Index_int_int.R t5) [] ∧ True) ∧ (True) ∧ (((decide (t5 < (0 : Int))) = true → (True ∧ (True) ∧ (True ∧ (((True) ∧ True) ∧ ((True) ∧ True) ∧ (.tup [.one (.sc (.int .i64 (0 : Int))), .agg [.row 8 (.int .i64) (List.replicate 8 (0 : Int))], .one (.err (some (24 : Int)))] : Tm) = fds_Put.R r ∧ ([] : List Box) = [])))) ∧ ((decide (t5 < (0 : Int))) = false → (True) ∧ (0 ≤ t5 ∧ t5 < ((8 : Nat) : Int)) ∧ ((Int.toNat t5) < 8) ∧ (True) ∧ (True) ∧ (True ∧ (((True) ∧ True) ∧ ((True) ∧ True) ∧ (.tup [.one (.sc (.int .i64 t5)), .agg [.row 8 (.int .i64) (List.set a0 (Int.toNat t5) (IntKind.wrap .i64 (a1 + (1 : Int))))], .one (.err none)] : Tm) = fds_Put.R r ∧ ([] : List Box) = [])))))))))) ∧ ((decide (a1 < (0 : Int))) = true → ((decide (a1 < (0 : Int))) = true ∧ ((decide (a1 < (0 : Int))) = true ∧ (true = true ∧ (True ∧ (True) ∧ (True ∧ (((True) ∧ True) ∧ ((True) ∧ True) ∧ (.tup [.one (.sc (.int .i64 (0 : Int))), .agg [.row 8 (.int .i64) (List.replicate 8 (0 : Int))], .one (.err (some (22 : Int)))] : Tm) = fds_Put.R r ∧ ([] : List Box) = []))))))))))) ∧ ((!(Option.isNone t1)) = true → ((!(Option.isNone t1)) = true ∧ ((!(Option.isNone t1)) = true ∧ (true = true ∧ (true = true ∧ (true = true ∧ (true = true ∧ (True ∧ (True) ∧ (True ∧ (((True) ∧ True) ∧ ((True) ∧ True) ∧ (.tup [.one (.sc (.int .i64 (0 : Int))), .agg [.row 8 (.int .i64) (List.replicate 8 (0 : Int))], .one (.err (some (22 : Int)))] : Tm) = fds_Put.R r ∧ ([] : List Box) = []))))))))))))) (by kernel_rfl) ?_)
  refine ⟨trivial, ?_⟩
  obtain ⟨t1, ht1, h⟩ := of_bind h
  refine ⟨t1, ⟨fds_Check.fun_ ht1, trivial⟩, ?_⟩
  refine ⟨trivial, ?_⟩
  refine ⟨fun b2 => ?_, fun b2 => ?_⟩
  · rw [if_neg (not_not_intro (none_t (not_f b2)))] at h
    refine ⟨b2, ?_⟩
    refine ⟨trivial, ?_⟩
    refine ⟨b2, ?_⟩
    refine ⟨fun b3 => ?_, fun b3 => ?_⟩
    · rw [if_neg (of_decide_eq_false b3)] at h
      refine ⟨b3, ?_⟩
      refine ⟨trivial, ?_⟩
      refine ⟨b3, ?_⟩
      refine ⟨fun b4 => ?_, fun b4 => ?_⟩
      · rw [if_pos (of_decide_eq_true b4)] at h
        refine ⟨trivial, ?_⟩
        refine ⟨trivial, ?_⟩
        refine ⟨trivial, ?_⟩
        obtain rfl := Option.some.inj h
        exact ⟨⟨trivial, trivial⟩, ⟨trivial, trivial⟩, rfl, rfl⟩
      · rw [if_neg (of_decide_eq_false b4)] at h
        refine ⟨⟨trivial, trivial, trivial, (by decide)⟩, ?_⟩
        obtain ⟨t5, ht5, h⟩ := of_bind h
        refine ⟨t5, ⟨(by decide), slices_Index_int_int.fun_ ht5, trivial⟩, ?_⟩
        refine ⟨trivial, ?_⟩
        refine ⟨fun b6 => ?_, fun b6 => ?_⟩
        · rw [if_pos (of_decide_eq_true b6)] at h
          refine ⟨trivial, ?_⟩
          refine ⟨trivial, ?_⟩
          refine ⟨trivial, ?_⟩
          obtain rfl := Option.some.inj h
          exact ⟨⟨trivial, trivial⟩, ⟨trivial, trivial⟩, rfl, rfl⟩
        · rw [if_neg (of_decide_eq_false b6)] at h
          refine ⟨trivial, ?_⟩
          obtain ⟨g8, h⟩ := of_guard h
          refine ⟨g8, ?_⟩
          obtain ⟨g7, h⟩ := of_guard h
          refine ⟨g7, ?_⟩
          refine ⟨trivial, trivial, ?_⟩
          refine ⟨trivial, ?_⟩
          obtain rfl := Option.some.inj h
          exact ⟨⟨trivial, trivial⟩, ⟨trivial, trivial⟩, rfl, rfl⟩
    · rw [if_pos (of_decide_eq_true b3)] at h
      refine ⟨b3, ?_⟩
      refine ⟨b3, ?_⟩
      refine ⟨rfl, ?_⟩
      refine ⟨trivial, ?_⟩
      refine ⟨trivial, ?_⟩
      refine ⟨trivial, ?_⟩
      obtain rfl := Option.some.inj h
      exact ⟨⟨trivial, trivial⟩, ⟨trivial, trivial⟩, rfl, rfl⟩
  · rw [if_pos (none_f (not_t b2))] at h
    refine ⟨b2, ?_⟩
    refine ⟨b2, ?_⟩
    refine ⟨rfl, ?_⟩
    refine ⟨rfl, ?_⟩
    refine ⟨rfl, ?_⟩
    refine ⟨rfl, ?_⟩
    refine ⟨trivial, ?_⟩
    refine ⟨trivial, ?_⟩
    refine ⟨trivial, ?_⟩
    obtain rfl := Option.some.inj h
    exact ⟨⟨trivial, trivial⟩, ⟨trivial, trivial⟩, rfl, rfl⟩
/-! halter/halterref20.May -/
def halterref20_May.l0 (a0 : (List Int)) : Nat → Int → Option ((Unit) ⊕ (Unit))
  | 0, _ => none
  | n + 1, x1 =>
    if x1 < (8 : Int) then
      if 0 ≤ x1 ∧ x1 < ((8 : Nat) : Int) then
        if (Int.toNat x1) < 8 then
          if (List.getD a0 (Int.toNat x1) (0 : Int)) < (0 : Int) then
            some (.inr ())
          else
            if 0 ≤ x1 ∧ x1 < ((8 : Nat) : Int) then
              if (Int.toNat x1) < 8 then
                if (List.getD a0 (Int.toNat x1) (0 : Int)) > (32 : Int) then
                  some (.inr ())
                else
                  halterref20_May.l0 a0 n (IntKind.wrap .i64 (x1 + (1 : Int)))
              else none
            else none
        else none
      else none
    else
      some (.inl ())
def halterref20_May.l0_S (a0 : (List Int)) (x1 : Int) : St := ⟨[.any, .v (.one (.ptr 0 ⟨0, 0, 0, 0⟩)), .any, .v (.one (.sc (.int .i64 x1))), .any, .any, .any, .any, .any, .any, .any, .any, .any, .any, .any, .any, .any, .any], [.ex false [.row 8 (.int .i64) a0] 22], 0⟩
def halterref20_May.l0_Q (a0 : (List Int)) : (Unit) ⊕ (Unit) → Exit → St → Prop
  | .inl t => fun e s => e = (.exit 0) ∧ s = ⟨[.any, .any, .any, .any, .any, .any, .any, .any, .any, .any, .any, .any, .any, .any, .any, .any, .any, .any], [.ex false [.row 8 (.int .i64) a0] 22], 0⟩
  | .inr t => fun e s => e = .ret ∧ s = ⟨[.any, .any, .v (.one (.sc (.bool false))), .any, .any, .any, .any, .any, .any, .any, .any, .any, .any, .any, .any, .any, .any, .any], [.ex false [.row 8 (.int .i64) a0] 22], 0⟩
theorem halterref20_May.l0_ok (a0 : (List Int)) : ∀ (n : Nat) (x1 : Int) (r : (Unit) ⊕ (Unit)), halterref20_May.l0 a0 n x1 = some r → TripN cfg (cpath (Tryd.f14.body.getD .skip) [1, 0, 1, 0, 0]) n (halterref20_May.l0_S a0 x1) (halterref20_May.l0_Q a0 r)
  | 0, _, r, h => by cases h
  | n + 1, x1, r, h => by
    rw [halterref20_May.l0] at h
    refine TripN.of_run cfg_ok (k := (.br (.br (.one true (.one true (.one true (.one true (.one true (.adj [] (.adj [.keep [2], .drop 1] .nil))))))) (.one false (.one false (.one false (.one false (.br (.adj [] (.adj [.keep [2], .drop 1] .nil)) (.adj [] (.adj [] (.adj [.keep [1, 3], .drop 1] .nil))))))))) (.adj [.keep [], .drop 1] .nil))) (to_goal (q := (True) ∧ (((decide (x1 < (8 : Int))) = true → (0 ≤ x1 ∧ x1 < ((8 : Nat) : Int)) ∧ ((Int.toNat x1) < 8) ∧ (True) ∧ (((decide ((List.getD a0 (Int.toNat x1) (0 : Int)) < (0 : Int))) = false → ((decide ((List.getD a0 (Int.toNat x1) (0 : Int)) < (0 : Int))) = false ∧ (0 ≤ x1 ∧ x1 < ((8 : Nat) : Int)) ∧ ((decide ((List.getD a0 (Int.toNat x1) (0 : Int)) < (0 : Int))) = false ∧ ((Int.toNat x1) < 8) ∧ ((decide ((List.getD a0 (Int.toNat x1) (0 : Int)) < (0 : Int))) = false ∧ (True) ∧ ((decide ((List.getD a0 (Int.toNat x1) (0 : Int)) < (0 : Int))) = false ∧ (((decide ((List.getD a0 (Int.toNat x1) (0 : Int)) > (32 : Int))) = true → (True ∧ (((True) ∧ (True) ∧ True) ∧ halterref20_May.l0_Q a0 r .ret ⟨[.any, .any, .v (.one (.sc (.bool false))), .any, .any, .any, .any, .any, .any, .any, .any, .any, .any, .any, .any, .any, .any, .any], [.ex false [.row 8 (.int .i64) a0] 22], 0⟩))) ∧ ((decide ((List.getD a0 (Int.toNat x1) (0 : Int)) > (32 : Int))) = false → (True ∧ (True ∧ (True) ∧ (((True) ∧ (True) ∧ True) ∧ TripN cfg (cpath (Tryd.f14.body.getD .skip) [1, 0, 1, 0, 0]) n (halterref20_May.l0_S a0 (IntKind.wrap .i64 (x1 + (1 : Int)))) (halterref20_May.l0_Q a0 r))))))))))) ∧ ((decide ((List.getD a0 (Int.toNat x1) (0 : Int)) < (0 : Int))) = true → ((decide ((List.getD a0 (Int.toNat x1) (0 : Int)) < (0 : Int))) = true ∧ ((decide ((List.getD a0 (Int.toNat x1) (0 : Int)) < (0 : Int))) = true ∧ ((decide ((List.getD a0 (Int.toNat x1) (0 : Int)) < (0 : Int))) = true ∧ ((decide ((List.getD a0 (Int.toNat x1) (0 : Int)) < (0 : Int))) = true ∧ (true = true ∧ (True ∧ (((True) ∧ (True) ∧ True) ∧ halterref20_May.l0_Q a0 r .ret ⟨[.any, .any, .v (.one (.sc (.bool false))), .any, .any, .any, .any, .any, .any, .any, .any, .any, .any, .any, .any, .any, .any, .any], [.ex false [.row 8 (.int .i64) a0] 22], 0⟩)))))))))) ∧ ((decide (x1 < (8 : Int))) = false → (((True) ∧ (True) ∧ True) ∧ halterref20_May.l0_Q a0 r (.exit 0) ⟨[.any, .any, .any, .any, .any, .any, .any, .any, .any, .any, .any, .any, .any, .any, .any, .any, .any, .any], [.ex false [.row 8 (.int .i64) a0] 22], 0⟩)))) (by kernel_rfl) ?_)
    refine ⟨trivial, ?_⟩
    refine ⟨fun b10 => ?_, fun b10 => ?_⟩
    · rw [if_pos (of_decide_eq_true b10)] at h
      obtain ⟨g16, h⟩ := of_guard h
      refine ⟨g16, ?_⟩
      obtain ⟨g15, h⟩ := of_guard h
      refine ⟨g15, ?_⟩
      refine ⟨trivial, ?_⟩
      refine ⟨fun b11 => ?_, fun b11 => ?_⟩
      · rw [if_neg (of_decide_eq_false b11)] at h
        refine ⟨b11, ?_⟩
        obtain ⟨g14, h⟩ := of_guard h
        refine ⟨g14, ?_⟩
        refine ⟨b11, ?_⟩
        obtain ⟨g13, h⟩ := of_guard h
        refine ⟨g13, ?_⟩
        refine ⟨b11, ?_⟩
        refine ⟨trivial, ?_⟩
        refine ⟨b11, ?_⟩
        refine ⟨fun b12 => ?_, fun b12 => ?_⟩
        · rw [if_pos (of_decide_eq_true b12)] at h
          refine ⟨trivial, ?_⟩
          obtain rfl := Option.some.inj h
          exact ⟨⟨trivial, trivial, trivial⟩, rfl, rfl⟩
        · rw [if_neg (of_decide_eq_false b12)] at h
          refine ⟨trivial, ?_⟩
          refine ⟨trivial, ?_⟩
          refine ⟨trivial, ?_⟩
          exact ⟨⟨trivial, trivial, trivial⟩, halterref20_May.l0_ok a0 n (IntKind.wrap .i64 (x1 + (1 : Int))) r h⟩
      · rw [if_pos (of_decide_eq_true b11)] at h
        refine ⟨b11, ?_⟩
        refine ⟨b11, ?_⟩
        refine ⟨b11, ?_⟩
        refine ⟨b11, ?_⟩
        refine ⟨rfl, ?_⟩
        refine ⟨trivial, ?_⟩
        obtain rfl := Option.some.inj h
        exact ⟨⟨trivial, trivial, trivial⟩, rfl, rfl⟩
    · rw [if_neg (of_decide_eq_false b10)] at h
      obtain rfl := Option.some.inj h
      exact ⟨⟨trivial, trivial, trivial⟩, rfl, rfl⟩
def halterref20_May.f (a0 : (List Int)) : Option Bool :=
  (halterref20_May.l0 a0 FUEL (0 : Int)).bind fun t9 =>
  match t9 with
  | .inl t17 =>
    some true
  | .inr t18 =>
    some false
def halterref20_May.R (r : Bool) : Tm := .v (.one (.sc (.bool r)))
theorem halterref20_May.fun_ {a0 : (List Int)} {r : Bool} (h : halterref20_May.f a0 = some r) : Fun cfg 14 [.agg [.row 8 (.int .i64) a0]] [] (halterref20_May.R r) [] := by
  unfold halterref20_May.f at h
  refine fun_of_run cfg_ok (f := 14) (fn := Tryd.f14) Tryd.func14 rfl (by kernel_rfl) (rs := [.tmp 2]) rfl (nt := 18) rfl (l := fin) (k := (.adj [] (.adj [] (.adj [.keep [1, 3]] (.alt (.sub (Unit) (fun _ => (.exit 0)) (fun t17 => ⟨[.any, .any, .any, .any, .any, .any, .any, .any, .any, .any, .any, .any, .any, .any, .any, .any, .any, .any], [.ex false [.row 8 (.int .i64) a0] 22], 0⟩) (fun t17 => (.adj [] (.adj [] (.adj [.drop 0] .nil))))) (.sub (Unit) (fun _ => .ret) (fun t18 => ⟨[.any, .any, .v (.one (.sc (.bool false))), .any, .any, .any, .any, .any, .any, .any, .any, .any, .any, .any, .any, .any, .any, .any], [.ex false [.row 8 (.int .i64) a0] 22], 0⟩) (fun t18 => (.adj [.drop 0] .nil)))))))) (to_goal (q := (True ∧ (True ∧ (((True) ∧ True) ∧ ((∃ t17 : Unit, Trip cfg (.loop (cpath (Tryd.f14.body.getD .skip) [1, 0, 1, 0, 0])) ⟨[.any, .v (.one (.ptr 0 ⟨0, 0, 0, 0⟩)), .any, .v (.one (.sc (.int .i64 (0 : Int)))), .any, .any, .any, .any, .any, .any, .any, .any, .any, .any, .any, .any, .any, .any], [.ex false [.row 8 (.int .i64) a0] 22], 0⟩ (fun e s => e = (.exit 0) ∧ s = ⟨[.any, .any, .any, .any, .any, .any, .any, .any, .any, .any, .any, .any, .any, .any, .any, .any, .any, .any], [.ex false [.row 8 (.int .i64) a0] 22], 0⟩) ∧ (True ∧ (True ∧ ((True) ∧ ((True) ∧ True) ∧ (.v (.one (.sc (.bool true))) : Tm) = halterref20_May.R r ∧ ([] : List Box) = [])))) ∨ (∃ t18 : Unit, Trip cfg (.loop (cpath (Tryd.f14.body.getD .skip) [1, 0, 1, 0, 0])) ⟨[.any, .v (.one (.ptr 0 ⟨0, 0, 0, 0⟩)), .any, .v (.one (.sc (.int .i64 (0 : Int)))), .any, .any, .any, .any, .any, .any, .any, .any, .any, .any, .any, .any, .any, .any], [.ex false [.row 8 (.int .i64) a0] 22], 0⟩ (fun e s => e = .ret ∧ s = ⟨[.any, .any, .v (.one (.sc (.bool false))), .any, .any, .any, .any, .any, .any, .any, .any, .any, .any, .any, .any, .any, .any, .any], [.ex false [.row 8 (.int .i64) a0] 22], 0⟩) ∧ ((True) ∧ ((True) ∧ True) ∧ (.v (.one (.sc (.bool false))) : Tm) = halterref20_May.R r ∧ ([] : List Box) = []))))))) (by kernel_rfl) ?_)
  refine ⟨trivial, ?_⟩
  refine ⟨trivial, ?_⟩
  obtain ⟨t9, ht9, h⟩ := of_bind h
  refine ⟨⟨trivial, trivial⟩, ?_⟩
  rcases t9 with t17 | t18
  · dsimp only at h
    left
    refine ⟨t17, Trip.loop FUEL (halterref20_May.l0_ok a0 FUEL (0 : Int) (.inl t17) ht9), ?_⟩
    refine ⟨trivial, ?_⟩
    refine ⟨trivial, ?_⟩
    obtain rfl := Option.some.inj h
    exact ⟨trivial, ⟨trivial, trivial⟩, rfl, rfl⟩
  · dsimp only at h
    right
    refine ⟨t18, Trip.loop FUEL (halterref20_May.l0_ok a0 FUEL (0 : Int) (.inr t18) ht9), ?_⟩
    obtain rfl := Option.some.inj h
    exact ⟨trivial, ⟨trivial, trivial⟩, rfl, rfl⟩
/-! halter/halterref20.Put -/
def halterref20_Put.l0 (a0 : (List Int)) (a1 : Int) : Nat → Int → Option ((Unit) ⊕ ((List Int) × (List Int) × Int))
  | 0, _ => none
  | n + 1, x5 =>
    if x5 < (8 : Int) then
      if 0 ≤ x5 ∧ x5 < ((8 : Nat) : Int) then
        if (Int.toNat x5) < 8 then
          if (List.getD a0 (Int.toNat x5) (0 : Int)) = (0 : Int) then
            if 0 ≤ x5 ∧ x5 < ((8 : Nat) : Int) then
              if (Int.toNat x5) < 8 then
                some (.inr ((List.set a0 (Int.toNat x5) (IntKind.wrap .i64 (a1 + (1 : Int)))), (List.set a0 (Int.toNat x5) (IntKind.wrap .i64 (a1 + (1 : Int)))), x5))
              else none
            else none
          else
            halterref20_Put.l0 a0 a1 n (IntKind.wrap .i64 (x5 + (1 : Int)))
        else none
      else none
    else
      some (.inl ())
def halterref20_Put.l0_S (a0 : (List Int)) (a1 : Int) (x5 : Int) : St := ⟨[.any, .v (.one (.sc (.int .i64 a1))), .v (.one (.ptr 0 ⟨0, 0, 0, 0⟩)), .any, .any, .v (.one (.ptr 1 ⟨0, 0, 0, 0⟩)), .any, .v (.one (.sc (.int .i64 x5))), .any, .any, .any, .any, .any, .any, .any, .any, .any, .any, .any, .any, .any, .any, .any, .any, .any, .any, .any, .any, .any, .any, .any, .any, .any, .any, .any], [.ex false [.row 8 (.int .i64) a0] 22, .ex false [.row 8 (.int .i64) (List.replicate 8 (0 : Int))] 22], 0⟩
def halterref20_Put.l0_Q (a0 : (List Int)) (a1 : Int) : (Unit) ⊕ ((List Int) × (List Int) × Int) → Exit → St → Prop
  | .inl t => fun e s => e = (.exit 0) ∧ s = ⟨[.any, .any, .any, .any, .any, .v (.one (.ptr 1 ⟨0, 0, 0, 0⟩)), .any, .any, .any, .any, .any, .any, .any, .any, .any, .any, .any, .any, .any, .any, .any, .any, .any, .any, .any, .any, .any, .any, .any, .any, .any, .any, .any, .any, .any], [.ex false [.row 8 (.int .i64) a0] 22, .ex false [.row 8 (.int .i64) (List.replicate 8 (0 : Int))] 22], 0⟩
  | .inr t => fun e s => e = .ret ∧ s = ⟨[.any, .any, .any, .any, .v (.one (.sc (.int .i64 t.2.2))), .v (.one (.ptr 1 ⟨0, 0, 0, 0⟩)), .v (.one (.sc (.int .i64 (0 : Int)))), .any, .any, .any, .any, .any, .any, .any, .any, .any, .any, .any, .any, .any, .any, .any, .any, .any, .any, .any, .any, .any, .any, .any, .any, .any, .any, .any, .any], [.ex false [.row 8 (.int .i64) t.1] 22, .ex false [.row 8 (.int .i64) t.2.1] 22], 0⟩
theorem halterref20_Put.l0_ok (a0 : (List Int)) (a1 : Int) : ∀ (n : Nat) (x5 : Int) (r : (Unit) ⊕ ((List Int) × (List Int) × Int)), halterref20_Put.l0 a0 a1 n x5 = some r → TripN cfg (cpath (Tryd.f7.body.getD .skip) [1, 1, 0, 1, 0, 0]) n (halterref20_Put.l0_S a0 a1 x5) (halterref20_Put.l0_Q a0 a1 r)
  | 0, _, r, h => by cases h
  | n + 1, x5, r, h => by
    rw [halterref20_Put.l0] at h
    refine TripN.of_run cfg_ok (k := (.br (.br (.dr [(0, ⟨none, .no⟩), (1, ⟨none, .no⟩), (2, ⟨none, .no⟩), (3, ⟨none, .no⟩), (4, ⟨none, .no⟩)] (.adj [.keep [4, 5, 6], .drop 2] .nil)) (.adj [] (.adj [] (.adj [.keep [1, 2, 5, 7], .drop 2] .nil)))) (.adj [.keep [5], .drop 2] .nil))) (to_goal (q := (True) ∧ (((decide (x5 < (8 : Int))) = true → (0 ≤ x5 ∧ x5 < ((8 : Nat) : Int)) ∧ ((Int.toNat x5) < 8) ∧ (True) ∧ ((((List.getD a0 (Int.toNat x5) (0 : Int)) == (0 : Int)) = true → (True) ∧ (0 ≤ x5 ∧ x5 < ((8 : Nat) : Int)) ∧ ((Int.toNat x5) < 8) ∧ (True) ∧ (True) ∧ (((True) ∧ (True) ∧ True) ∧ halterref20_Put.l0_Q a0 a1 r .ret ⟨[.any, .any, .any, .any, .v (.one (.sc (.int .i64 x5))), .v (.one (.ptr 1 ⟨0, 0, 0, 0⟩)), .v (.one (.sc (.int .i64 (0 : Int)))), .any, .any, .any, .any, .any, .any, .any, .any, .any, .any, .any, .any, .any, .any, .any, .any, .any, .any, .any, .any, .any, .any, .any, .any, .any, .any, .any, .any], [.ex false [.row 8 (.int .i64) (List.set a0 (Int.toNat x5) (IntKind.wrap .i64 (a1 + (1 : Int))))] 22, .ex false [.row 8 (.int .i64) (List.set a0 (Int.toNat x5) (IntKind.wrap .i64 (a1 + (1 : Int))))] 22], 0⟩)) ∧ (((List.getD a0 (Int.toNat x5) (0 : Int)) == (0 : Int)) = false → (True ∧ (True ∧ (True) ∧ (((True) ∧ (True) ∧ True) ∧ TripN cfg (cpath (Tryd.f7.body.getD .skip) [1, 1, 0, 1, 0, 0]) n (halterref20_Put.l0_S a0 a1 (IntKind.wrap .i64 (x5 + (1 : Int)))) (halterref20_Put.l0_Q a0 a1 r))))))) ∧ ((decide (x5 < (8 : Int))) = false → (((True) ∧ (True) ∧ True) ∧ halterref20_Put.l0_Q a0 a1 r (.exit 0) ⟨[.any, .any, .any, .any, .any, .v (.one (.ptr 1 ⟨0, 0, 0, 0⟩)), .any, .any, .any, .any, .any, .any, .any, .any, .any, .any, .any, .any, .any, .any, .any, .any, .any, .any, .any, .any, .any, .any, .any, .any, .any, .any, .any, .any, .any], [.ex false [.row 8 (.int .i64) a0] 22, .ex false [.row 8 (.int .i64) (List.replicate 8 (0 : Int))] 22], 0⟩)))) (by kernel_rfl) ?_)
    refine ⟨trivial, ?_⟩
    refine ⟨fun b16 => ?_, fun b16 => ?_⟩
    · rw [if_pos (of_decide_eq_true b16)] at h
      obtain ⟨g21, h⟩ := of_guard h
      refine ⟨g21, ?_⟩
      obtain ⟨g20, h⟩ := of_guard h
      refine ⟨g20, ?_⟩
      refine ⟨trivial, ?_⟩
      refine ⟨fun b17 => ?_, fun b17 => ?_⟩
      · rw [if_pos (beq_t b17)] at h
        refine ⟨trivial, ?_⟩
        obtain ⟨g19, h⟩ := of_guard h
        refine ⟨g19, ?_⟩
        obtain ⟨g18, h⟩ := of_guard h
        refine ⟨g18, ?_⟩
        refine ⟨trivial, trivial, ?_⟩
        obtain rfl := Option.some.inj h
        exact ⟨⟨trivial, trivial, trivial⟩, rfl, rfl⟩
      · rw [if_neg (beq_f b17)] at h
        refine ⟨trivial, ?_⟩
        refine ⟨trivial, ?_⟩
        refine ⟨trivial, ?_⟩
        exact ⟨⟨trivial, trivial, trivial⟩, halterref20_Put.l0_ok a0 a1 n (IntKind.wrap .i64 (x5 + (1 : Int))) r h⟩
    · rw [if_neg (of_decide_eq_false b16)] at h
      obtain rfl := Option.some.inj h
      exact ⟨⟨trivial, trivial, trivial⟩, rfl, rfl⟩
def halterref20_Put.f (a0 : (List Int)) (a1 : Int) : Option (Int × (List Int) × Int) :=
  (halterref20_May.f a0).bind fun t1 =>
  if ¬ (t1 = true) then
    some ((0 : Int), (List.replicate 8 (0 : Int)), (22 : Int))
  else
    if a1 < (0 : Int) then
      some ((0 : Int), (List.replicate 8 (0 : Int)), (22 : Int))
    else
      if a1 > (31 : Int) then
        some ((0 : Int), (List.replicate 8 (0 : Int)), (22 : Int))
      else
        (halterref20_Put.l0 a0 a1 FUEL (0 : Int)).bind fun t15 =>
        match t15 with
        | .inl t25 =>
          some ((0 : Int), (List.replicate 8 (0 : Int)), (24 : Int))
        | .inr t26 =>
          some (t26.2.2, t26.2.1, (0 : Int))
def halterref20_Put.R (r : Int × (List Int) × Int) : Tm := .tup [.one (.sc (.int .i64 r.1)), .agg [.row 8 (.int .i64) r.2.1], .one (.sc (.int .i64 r.2.2))]
theorem halterref20_Put.fun_ {a0 : (List Int)} {a1 : Int} {r : Int × (List Int) × Int} (h : halterref20_Put.f a0 a1 = some r) : Fun cfg 7 [.agg [.row 8 (.int .i64) a0], .one (.sc (.int .i64 a1))] [] (halterref20_Put.R r) [] := by
  unfold halterref20_Put.f at h
  refine fun_of_run cfg_ok (f := 7) (fn := Tryd.f7) Tryd.func7 rfl (by kernel_rfl) (rs := [.tmp 4, .cell 5 22, .tmp 6]) rfl (nt := 35) rfl (l := fin) (k := (.call true [] (Bool) (fun t1 => halterref20_May.R t1) (fun t1 => (.br (.one true (.one true (.one true (.one true (.one true (.one true (.adj [] (.adj [] (.adj [.drop 0] .nil))))))))) (.one false (.one false (.br (.one true (.one true (.one true (.adj [] (.adj [] (.adj [.drop 0] .nil)))))) (.one false (.one false (.br (.adj [] (.adj [] (.adj [.drop 0] .nil))) (.adj [] (.adj [] (.adj [.keep [1, 2, 5, 7]] (.alt (.sub (Unit) (fun _ => (.exit 0)) (fun t25 => ⟨[.any, .any, .any, .any, .any, .v (.one (.ptr 1 ⟨0, 0, 0, 0⟩)), .any, .any, .any, .any, .any, .any, .any, .any, .any, .any, .any, .any, .any, .any, .any, .any, .any, .any, .any, .any, .any, .any, .any, .any, .any, .any, .any, .any, .any], [.ex false [.row 8 (.int .i64) a0] 22, .ex false [.row 8 (.int .i64) (List.replicate 8 (0 : Int))] 22], 0⟩) (fun t25 => (.adj [] (.adj [] (.adj [.drop 0] .nil))))) (.sub ((List Int) × (List Int) × Int) (fun _ => .ret) (fun t26 => ⟨[.any, .any, .any, .any, .v (.one (.sc (.int .i64 t26.2.2))), .v (.one (.ptr 1 ⟨0, 0, 0, 0⟩)), .v (.one (.sc (.int .i64 (0 : Int)))), .any, .any, .any, .any, .any, .any, .any, .any, .any, .any, .any, .any, .any, .any, .any, .any, .any, .any, .any, .any, .any, .any, .any, .any, .any, .any, .any, .any], [.ex false [.row 8 (.int .i64) t26.1] 22, .ex false [.row 8 (.int .i64) t26.2.1] 22], 0⟩) (fun t26 => (.adj [.drop 0] .nil))))))))))))))))) (to_goal (q := (True) ∧ (∃ t1 : Bool, (Fun cfg 14 [.agg [.row 8 (.int .i64) a0]] [] (halterref20_May.R t1) [] ∧ True) ∧ (((!t1) = false → ((!t1) = false ∧ (True) ∧ ((!t1) = false ∧ (((decide (a1 < (0 : Int))) = false → ((decide (a1 < (0 : Int))) = false ∧ (True) ∧ ((decide (a1 < (0 : Int))) = false ∧ (((decide (a1 > (31 : Int))) = true → (True ∧ (True) ∧ (True ∧ (((True) ∧ True) ∧ ((True) ∧ True) ∧ (.tup [.one (.sc (.int .i64 (0 : Int))), .agg [.row 8 (.int .i64) (List.replicate 8 (0 : Int))], .one (.sc (.int .i64 (22 : Int)))] : Tm) = halterref20_Put.R r ∧ ([] : List Box) = [])))) ∧ ((decide (a1 > (31 : Int))) = false → (True ∧ (True ∧ (((True) ∧ True) ∧ ((∃ t25 : Unit, Trip cfg (.loop (cpath (Tryd.f7.body.getD .skip) [1, 1, 0, 1, 0, 0])) ⟨[.any, .v (.one (.sc (.int .i64 a1))), .v (.one (.ptr 0 ⟨0, 0, 0, 0⟩)), .any, .any, .v (.one (.ptr 1 ⟨0, 0, 0, 0⟩)), .any, .v (.one (.sc (.int .i64 (0 : Int)))), .any, .any, .any, .any, .any, .any, .any, .any, .any, .any, .any, .any, .any, .any, .any, .any, .any, .any, .any, .any, .any, .any, .any, .any, .any, .any, .any], [.ex false [.row 8 (.int .i64) a0] 22, .ex false [.row 8 (.int .i64) (List.replicate 8 (0 : Int))] 22], 0⟩ (fun e s => e = (.exit 0) ∧ s = ⟨[.any, .any, .any, .any, .any, .v (.one (.ptr 1 ⟨0, 0, 0, 0⟩)), .any, .any, .any, .any, .any, .any, .any, .any, .any, .any, .any, .any, .any, .any, .any, .any, .any, .any, .any, .any, .any, .any, .any, .any, .any, .any, .any, .any, .any], [.ex false [.row 8 (.int .i64) a0] 22, .ex false [.row 8 (.int .i64) (List.replicate 8 (0 : Int))] 22], 0⟩) ∧ (True ∧ (True) ∧ (True ∧ (((True) ∧ True) ∧ ((True) ∧ True) ∧ (.tup [.one (.sc (.int .i64 (0 : Int))), .agg [.row 8 (.int .i64) (List.replicate 8 (0 : Int))], .one (.sc (.int .i64 (24 : Int)))] : Tm) = halterref20_Put.R r ∧ ([] : List Box) = [])))) ∨ (∃ t26 : (List Int) × (List Int) × Int, Trip cfg (.loop (cpath (Tryd.f7.body.getD .skip) [1, 1, 0, 1, 0, 0])) ⟨[.any, .v (.one (.sc (.int .i64 a1))), .v (.one (.ptr 0 ⟨0, 0, 0, 0⟩)), .any, .any, .v (.one (.ptr 1 ⟨0, 0, 0, 0⟩)), .any, .v (.one (.sc (.int .i64 (0 : Int)))), .any, .any, .any, .any, .any, .any, .any, .any, .any, .any, .any, .any, .any, .any, .any, .any, .any, .any, .any, .any, .any, .any, .any, .any, .any, .any, .any], [.ex false [.row 8 (.int .i64) a0] 22, .ex false [.row 8 (.int .i64) (List.replicate 8 (0 : Int))] 22], 0⟩ (fun e s => e = .ret ∧ s = ⟨[.any, .any, .any, .any, .v (.one (.sc (.int .i64 t26.2.2))), .v (.one (.ptr 1 ⟨0, 0, 0, 0⟩)), .v (.one (.sc (.int .i64 (0 : Int)))), .any, .any, .any, .any, .any, .any, .any, .any, .any, .any, .any, .any, .any, .any, .any, .any, .any, .any, .any, .any, .any, .any, .any, .any, .any, .any, .any, .any], [.ex false [.row 8 (.int .i64) t26.1] 22, .ex false [.row 8 (.int .i64) t26.2.1] 22], 0⟩) ∧ (((True) ∧ True) ∧ ((True) ∧ True) ∧ (.tup [.one (.sc (.int .i64 t26.2.2)), .agg [.row 8 (.int .i64) t26.2.1], .one (.sc (.int .i64 (0 : Int)))] : Tm) = halterref20_Put.R r ∧ ([] : List Box) = []))))))))))) ∧ ((decide (a1 < (0 : Int))) = true → ((decide (a1 < (0 : Int))) = true ∧ ((decide (a1 < (0 : Int))) = true ∧ (true = true ∧ (True ∧ (True) ∧ (True ∧ (((True) ∧ True) ∧ ((True) ∧ True) ∧ (.tup [.one (.sc (.int .i64 (0 : Int))), .agg [.row 8 (.int .i64) (List.replicate 8 (0 : Int))], .one (.sc (.int .i64 (22 : Int)))] : Tm) = halterref20_Put.R r ∧ ([] : List Box) = []))))))))))) ∧ ((!t1) = true → ((!t1) = true ∧ ((!t1) = true ∧ (true = true ∧ (true = true ∧ (true = true ∧ (true = true ∧ (True ∧ (True) ∧ (True ∧ (((True) ∧ True) ∧ ((True) ∧ True) ∧ (.tup [.one (.sc (.int .i64 (0 : Int))), .agg [.row 8 (.int .i64) (List.replicate 8 (0 : Int))], .one (.sc (.int .i64 (22 : Int)))] : Tm) = halterref20_Put.R r ∧ ([] : List Box) = []))))))))))))) (by kernel_rfl) ?_)
  refine ⟨trivial, ?_⟩
  obtain ⟨t1, ht1, h⟩ := of_bind h
  refine ⟨t1, ⟨halterref20_May.fun_ ht1, trivial⟩, ?_⟩
  refine ⟨fun b2 => ?_, fun b2 => ?_⟩
  · rw [if_neg (not_not_intro (not_f b2))] at h
    refine ⟨b2, ?_⟩
    refine ⟨trivial, ?_⟩
    refine ⟨b2, ?_⟩
    refine ⟨fun b3 => ?_, fun b3 => ?_⟩
    · rw [if_neg (of_decide_eq_false b3)] at h
      refine ⟨b3, ?_⟩
      refine ⟨trivial, ?_⟩
      refine ⟨b3, ?_⟩
      refine ⟨fun b4 => ?_, fun b4 => ?_⟩
      · rw [if_pos (of_decide_eq_true b4)] at h
        refine ⟨trivial, ?_⟩
        refine ⟨trivial, ?_⟩
        refine ⟨trivial, ?_⟩
        obtain rfl := Option.some.inj h
        exact ⟨⟨trivial, trivial⟩, ⟨trivial, trivial⟩, rfl, rfl⟩
      · rw [if_neg (of_decide_eq_false b4)] at h
        refine ⟨trivial, ?_⟩
        refine ⟨trivial, ?_⟩
        obtain ⟨t15, ht15, h⟩ := of_bind h
        refine ⟨⟨trivial, trivial⟩, ?_⟩
        rcases t15 with t25 | t26
        · dsimp only at h
          left
          refine ⟨t25, Trip.loop FUEL (halterref20_Put.l0_ok a0 a1 FUEL (0 : Int) (.inl t25) ht15), ?_⟩
          refine ⟨trivial, ?_⟩
          refine ⟨trivial, ?_⟩
          refine ⟨trivial, ?_⟩
          obtain rfl := Option.some.inj h
          exact ⟨⟨trivial, trivial⟩, ⟨trivial, trivial⟩, rfl, rfl⟩
        · dsimp only at h
          right
          refine ⟨t26, Trip.loop FUEL (halterref20_Put.l0_ok a0 a1 FUEL (0 : Int) (.inr t26) ht15), ?_⟩
          obtain rfl := Option.some.inj h
          exact ⟨⟨trivial, trivial⟩, ⟨trivial, trivial⟩, rfl, rfl⟩
    · rw [if_pos (of_decide_eq_true b3)] at h
      refine ⟨b3, ?_⟩
      refine ⟨b3, ?_⟩
      refine ⟨rfl, ?_⟩
      refine ⟨trivial, ?_⟩
      refine ⟨trivial, ?_⟩
      refine ⟨trivial, ?_⟩
      obtain rfl := Option.some.inj h
      exact ⟨⟨trivial, trivial⟩, ⟨trivial, trivial⟩, rfl, rfl⟩
  · rw [if_pos (ff (not_t b2))] at h
    refine ⟨b2, ?_⟩
    refine ⟨b2, ?_⟩
    refine ⟨rfl, ?_⟩
    refine ⟨rfl, ?_⟩
    refine ⟨rfl, ?_⟩
    refine ⟨rfl, ?_⟩
    refine ⟨trivial, ?_⟩
    refine ⟨trivial, ?_⟩
    refine ⟨trivial, ?_⟩
    obtain rfl := Option.some.inj h
    exact ⟨⟨trivial, trivial⟩, ⟨trivial, trivial⟩, rfl, rfl⟩
/-! halter/fds.At -/
def fds_At.f (a0 : (List Int)) (a1 : Int) : Option (Int × (Option Int)) :=
  (fds_Check.f a0).bind fun t1 =>
  if ¬ (t1 = none) then
    some ((0 : Int), (some (22 : Int)))
  else
    if a1 < (0 : Int) then
      some ((0 : Int), (some (9 : Int)))
    else
      if a1 ≥ (8 : Int) then
        some ((0 : Int), (some (9 : Int)))
      else
        if 0 ≤ a1 ∧ a1 < ((8 : Nat) : Int) then
          if (Int.toNat a1) < 8 then
            if (List.getD a0 (Int.toNat a1) (0 : Int)) = (0 : Int) then
              some ((0 : Int), (some (9 : Int)))
            else
              if 0 ≤ a1 ∧ a1 < ((8 : Nat) : Int) then
                if (Int.toNat a1) < 8 then
                  some ((IntKind.wrap .i64 ((List.getD a0 (Int.toNat a1) (0 : Int)) - (1 : Int))), none)
                else none
              else none
          else none
        else none
def fds_At.R (r : Int × (Option Int)) : Tm := .tup [.one (.sc (.int .i64 r.1)), .one (.err r.2)]
theorem fds_At.fun_ {a0 : (List Int)} {a1 : Int} {r : Int × (Option Int)} (h : fds_At.f a0 a1 = some r) : Fun cfg 8 [.agg [.row 8 (.int .i64) a0], .one (.sc (.int .i64 a1))] [] (fds_At.R r) [] := by
  unfold fds_At.f at h
  refine fun_of_run cfg_ok (f := 8) (fn := Tryd.f8) Tryd.func8 rfl (by kernel_rfl) (rs := [.tmp 4, .tmp 5]) rfl (nt := 31) rfl (l := fin) (k := (.call true [] ((Option Int)) (fun t1 => fds_Check.R t1) (fun t1 => (.br (.adj [] (.adj [] (.adj [.drop 0] .nil))) (.br (.one true (.one true (.one true (.one true (.one true (.one true (.one true (.one true (.one true (.adj [] (.adj [] (.adj [.drop 0] .nil)))))))))))) (.one false (.one false (.br (.one true (.one true (.one true (.one true (.one true (.one true (.adj [] (.adj [] (.adj [.drop 0] .nil))))))))) (.one false (.one false (.one false (.one false (.one false (.br (.adj [] (.adj [] (.adj [.drop 0] .nil))) (.adj [] (.adj [] (.adj [] (.adj [.drop 0] .nil)))))))))))))))))) (to_goal (q := (True) ∧ (∃ t1 : (Option Int), (Fun cfg 20 [.agg [.row 8 (.int .i64) a0]] [] (fds_Check.R t1) [] ∧ True) ∧ (True) ∧ (((!(Option.isNone t1)) = true → (True ∧ (True ∧ ((True) ∧ ((True) ∧ True) ∧ (.tup [.one (.sc (.int .i64 (0 : Int))), .one (.err (some (22 : Int)))] : Tm) = fds_At.R r ∧ ([] : List Box) = [])))) ∧ ((!(Option.isNone t1)) = false → (True) ∧ (((decide (a1 < (0 : Int))) = false → ((decide (a1 < (0 : Int))) = false ∧ (True) ∧ ((decide (a1 < (0 : Int))) = false ∧ (((decide (a1 ≥ (8 : Int))) = false → ((decide (a1 ≥ (8 : Int))) = false ∧ ((decide (a1 ≥ (8 : Int))) = false ∧ (0 ≤ a1 ∧ a1 < ((8 : Nat) : Int)) ∧ ((decide (a1 ≥ (8 : Int))) = false ∧ ((Int.toNat a1) < 8) ∧ ((decide (a1 ≥ (8 : Int))) = false ∧ (True) ∧ ((decide (a1 ≥ (8 : Int))) = false ∧ ((((List.getD a0 (Int.toNat a1) (0 : Int)) == (0 : Int)) = true → (True ∧ (True ∧ ((True) ∧ ((True) ∧ True) ∧ (.tup [.one (.sc (.int .i64 (0 : Int))), .one (.err (some (9 : Int)))] : Tm) = fds_At.R r ∧ ([] : List Box) = [])))) ∧ (((List.getD a0 (Int.toNat a1) (0 : Int)) == (0 : Int)) = false → (True ∧ (True ∧ (0 ≤ a1 ∧ a1 < ((8 : Nat) : Int)) ∧ ((Int.toNat a1) < 8) ∧ (True) ∧ (True ∧ ((True) ∧ ((True) ∧ True) ∧ (.tup [.one (.sc (.int .i64 (IntKind.wrap .i64 ((List.getD a0 (Int.toNat a1) (0 : Int)) - (1 : Int))))), .one (.err none)] : Tm) = fds_At.R r ∧ ([] : List Box) = [])))))))))))) ∧ ((decide (a1 ≥ (8 : Int))) = true → ((decide (a1 ≥ (8 : Int))) = true ∧ ((decide (a1 ≥ (8 : Int))) = true ∧ ((decide (a1 ≥ (8 : Int))) = true ∧ ((decide (a1 ≥ (8 : Int))) = true ∧ ((decide (a1 ≥ (8 : Int))) = true ∧ (true = true ∧ (True ∧ (True ∧ ((True) ∧ ((True) ∧ True) ∧ (.tup [.one (.sc (.int .i64 (0 : Int))), .one (.err (some (9 : Int)))] : Tm) = fds_At.R r ∧ ([] : List Box) = [])))))))))))))) ∧ ((decide (a1 < (0 : Int))) = true → ((decide (a1 < (0 : Int))) = true ∧ ((decide (a1 < (0 : Int))) = true ∧ (true = true ∧ (true = true ∧ (true = true ∧ (true = true ∧ (true = true ∧ (true = true ∧ (true = true ∧ (True ∧ (True ∧ ((True) ∧ ((True) ∧ True) ∧ (.tup [.one (.sc (.int .i64 (0 : Int))), .one (.err (some (9 : Int)))] : Tm) = fds_At.R r ∧ ([] : List Box) = [])))))))))))))))))) (by kernel_rfl) ?_)
  refine ⟨trivial, ?_⟩
  obtain ⟨t1, ht1, h⟩ := of_bind h
  refine ⟨t1, ⟨fds_Check.fun_ ht1, trivial⟩, ?_⟩
  refine ⟨trivial, ?_⟩
  refine ⟨fun b2 => ?_, fun b2 => ?_⟩
  · rw [if_pos (none_f (not_t b2))] at h
    refine ⟨trivial, ?_⟩
    refine ⟨trivial, ?_⟩
    obtain rfl := Option.some.inj h
    exact ⟨trivial, ⟨trivial, trivial⟩, rfl, rfl⟩
  · rw [if_neg (not_not_intro (none_t (not_f b2)))] at h
    refine ⟨trivial, ?_⟩
    refine ⟨fun b3 => ?_, fun b3 => ?_⟩
    · rw [if_neg (of_decide_eq_false b3)] at h
      refine ⟨b3, ?_⟩
      refine ⟨trivial, ?_⟩
      refine ⟨b3, ?_⟩
      refine ⟨fun b4 => ?_, fun b4 => ?_⟩
      · rw [if_neg (of_decide_eq_false b4)] at h
        refine ⟨b4, ?_⟩
        refine ⟨b4, ?_⟩
        obtain ⟨g9, h⟩ := of_guard h
        refine ⟨g9, ?_⟩
        refine ⟨b4, ?_⟩
        obtain ⟨g8, h⟩ := of_guard h
        refine ⟨g8, ?_⟩
        refine ⟨b4, ?_⟩
        refine ⟨trivial, ?_⟩
        refine ⟨b4, ?_⟩
        refine ⟨fun b5 => ?_, fun b5 => ?_⟩
        · rw [if_pos (beq_t b5)] at h
          refine ⟨trivial, ?_⟩
          refine ⟨trivial, ?_⟩
          obtain rfl := Option.some.inj h
          exact ⟨trivial, ⟨trivial, trivial⟩, rfl, rfl⟩
        · rw [if_neg (beq_f b5)] at h
          refine ⟨trivial, ?_⟩
          refine ⟨trivial, ?_⟩
          obtain ⟨g7, h⟩ := of_guard h
          refine ⟨g7, ?_⟩
          obtain ⟨g6, h⟩ := of_guard h
          refine ⟨g6, ?_⟩
          refine ⟨trivial, ?_⟩
          refine ⟨trivial, ?_⟩
          obtain rfl := Option.some.inj h
          exact ⟨trivial, ⟨trivial, trivial⟩, rfl, rfl⟩
      · rw [if_pos (of_decide_eq_true b4)] at h
        refine ⟨b4, ?_⟩
        refine ⟨b4, ?_⟩
        refine ⟨b4, ?_⟩
        refine ⟨b4, ?_⟩
        refine ⟨b4, ?_⟩
        refine ⟨rfl, ?_⟩
        refine ⟨trivial, ?_⟩
        refine ⟨trivial, ?_⟩
        obtain rfl := Option.some.inj h
        exact ⟨trivial, ⟨trivial, trivial⟩, rfl, rfl⟩
    · rw [if_pos (of_decide_eq_true b3)] at h
      refine ⟨b3, ?_⟩
      refine ⟨b3, ?_⟩
      refine ⟨rfl, ?_⟩
      refine ⟨rfl, ?_⟩
      refine ⟨rfl, ?_⟩
      refine ⟨rfl, ?_⟩
      refine ⟨rfl, ?_⟩
      refine ⟨rfl, ?_⟩
      refine ⟨rfl, ?_⟩
      refine ⟨trivial, ?_⟩
      refine ⟨trivial, ?_⟩
      obtain rfl := Option.some.inj h
      exact ⟨trivial, ⟨trivial, trivial⟩, rfl, rfl⟩
/-! halter/halterref20.At -/
def halterref20_At.l0 (a0 : (List Int)) (a1 : Int) : Nat → Int → Option ((Unit) ⊕ (Int))
  | 0, _ => none
  | n + 1, x3 =>
    if x3 < (8 : Int) then
      if x3 = a1 then
        if 0 ≤ x3 ∧ x3 < ((8 : Nat) : Int) then
          if (Int.toNat x3) < 8 then
            if (List.getD a0 (Int.toNat x3) (0 : Int)) > (0 : Int) then
              if 0 ≤ x3 ∧ x3 < ((8 : Nat) : Int) then
                if (Int.toNat x3) < 8 then
                  some (.inr (IntKind.wrap .i64 ((List.getD a0 (Int.toNat x3) (0 : Int)) - (1 : Int))))
                else none
              else none
            else
              halterref20_At.l0 a0 a1 n (IntKind.wrap .i64 (x3 + (1 : Int)))
          else none
        else none
      else
        halterref20_At.l0 a0 a1 n (IntKind.wrap .i64 (x3 + (1 : Int)))
    else
      some (.inl ())
def halterref20_At.l0_S (a0 : (List Int)) (a1 : Int) (x3 : Int) : St := ⟨[.any, .v (.one (.sc (.int .i64 a1))), .v (.one (.ptr 0 ⟨0, 0, 0, 0⟩)), .any, .any, .any, .v (.one (.sc (.int .i64 x3))), .any, .any, .any, .any, .any, .any, .any, .any, .any, .any, .any, .any, .any, .any, .any, .any, .any, .any, .any, .any], [.ex false [.row 8 (.int .i64) a0] 22], 0⟩
def halterref20_At.l0_Q (a0 : (List Int)) (a1 : Int) : (Unit) ⊕ (Int) → Exit → St → Prop
  | .inl t => fun e s => e = (.exit 0) ∧ s = ⟨[.any, .any, .any, .any, .any, .any, .any, .any, .any, .any, .any, .any, .any, .any, .any, .any, .any, .any, .any, .any, .any, .any, .any, .any, .any, .any, .any], [.ex false [.row 8 (.int .i64) a0] 22], 0⟩
  | .inr t => fun e s => e = .ret ∧ s = ⟨[.any, .any, .any, .any, .v (.one (.sc (.int .i64 t))), .v (.one (.sc (.int .i64 (0 : Int)))), .any, .any, .any, .any, .any, .any, .any, .any, .any, .any, .any, .any, .any, .any, .any, .any, .any, .any, .any, .any, .any], [.ex false [.row 8 (.int .i64) a0] 22], 0⟩
theorem halterref20_At.l0_ok (a0 : (List Int)) (a1 : Int) : ∀ (n : Nat) (x3 : Int) (r : (Unit) ⊕ (Int)), halterref20_At.l0 a0 a1 n x3 = some r → TripN cfg (cpath (Tryd.f9.body.getD .skip) [1, 1, 0, 1, 0, 0]) n (halterref20_At.l0_S a0 a1 x3) (halterref20_At.l0_Q a0 a1 r)
  | 0, _, r, h => by cases h
  | n + 1, x3, r, h => by
    rw [halterref20_At.l0] at h
    refine TripN.of_run cfg_ok (k := (.br (.br (.one true (.one true (.one true (.one true (.br (.adj [] (.adj [.keep [4, 5], .drop 1] .nil)) (.adj [] (.adj [] (.adj [.keep [1, 2, 6], .drop 1] .nil)))))))) (.one false (.one false (.one false (.one false (.one false (.adj [] (.adj [] (.adj [.keep [1, 2, 6], .drop 1] .nil))))))))) (.adj [.keep [], .drop 1] .nil))) (to_goal (q := (True) ∧ (((decide (x3 < (8 : Int))) = true → (True) ∧ (((x3 == a1) = true → ((x3 == a1) = true ∧ (0 ≤ x3 ∧ x3 < ((8 : Nat) : Int)) ∧ ((x3 == a1) = true ∧ ((Int.toNat x3) < 8) ∧ ((x3 == a1) = true ∧ (True) ∧ ((x3 == a1) = true ∧ (((decide ((List.getD a0 (Int.toNat x3) (0 : Int)) > (0 : Int))) = true → (True ∧ (0 ≤ x3 ∧ x3 < ((8 : Nat) : Int)) ∧ ((Int.toNat x3) < 8) ∧ (True) ∧ (((True) ∧ (True) ∧ True) ∧ halterref20_At.l0_Q a0 a1 r .ret ⟨[.any, .any, .any, .any, .v (.one (.sc (.int .i64 (IntKind.wrap .i64 ((List.getD a0 (Int.toNat x3) (0 : Int)) - (1 : Int)))))), .v (.one (.sc (.int .i64 (0 : Int)))), .any, .any, .any, .any, .any, .any, .any, .any, .any, .any, .any, .any, .any, .any, .any, .any, .any, .any, .any, .any, .any], [.ex false [.row 8 (.int .i64) a0] 22], 0⟩))) ∧ ((decide ((List.getD a0 (Int.toNat x3) (0 : Int)) > (0 : Int))) = false → (True ∧ (True ∧ (True) ∧ (((True) ∧ (True) ∧ True) ∧ TripN cfg (cpath (Tryd.f9.body.getD .skip) [1, 1, 0, 1, 0, 0]) n (halterref20_At.l0_S a0 a1 (IntKind.wrap .i64 (x3 + (1 : Int)))) (halterref20_At.l0_Q a0 a1 r))))))))))) ∧ ((x3 == a1) = false → ((x3 == a1) = false ∧ ((x3 == a1) = false ∧ ((x3 == a1) = false ∧ ((x3 == a1) = false ∧ (false = false ∧ (True ∧ (True ∧ (True) ∧ (((True) ∧ (True) ∧ True) ∧ TripN cfg (cpath (Tryd.f9.body.getD .skip) [1, 1, 0, 1, 0, 0]) n (halterref20_At.l0_S a0 a1 (IntKind.wrap .i64 (x3 + (1 : Int)))) (halterref20_At.l0_Q a0 a1 r)))))))))))) ∧ ((decide (x3 < (8 : Int))) = false → (((True) ∧ (True) ∧ True) ∧ halterref20_At.l0_Q a0 a1 r (.exit 0) ⟨[.any, .any, .any, .any, .any, .any, .any, .any, .any, .any, .any, .any, .any, .any, .any, .any, .any, .any, .any, .any, .any, .any, .any, .any, .any, .any, .any], [.ex false [.row 8 (.int .i64) a0] 22], 0⟩)))) (by kernel_rfl) ?_)
    refine ⟨trivial, ?_⟩
    refine ⟨fun b13 => ?_, fun b13 => ?_⟩
    · rw [if_pos (of_decide_eq_true b13)] at h
      refine ⟨trivial, ?_⟩
      refine ⟨fun b14 => ?_, fun b14 => ?_⟩
      · rw [if_pos (beq_t b14)] at h
        refine ⟨b14, ?_⟩
        obtain ⟨g19, h⟩ := of_guard h
        refine ⟨g19, ?_⟩
        refine ⟨b14, ?_⟩
        obtain ⟨g18, h⟩ := of_guard h
        refine ⟨g18, ?_⟩
        refine ⟨b14, ?_⟩
        refine ⟨trivial, ?_⟩
        refine ⟨b14, ?_⟩
        refine ⟨fun b15 => ?_, fun b15 => ?_⟩
        · rw [if_pos (of_decide_eq_true b15)] at h
          refine ⟨trivial, ?_⟩
          obtain ⟨g17, h⟩ := of_guard h
          refine ⟨g17, ?_⟩
          obtain ⟨g16, h⟩ := of_guard h
          refine ⟨g16, ?_⟩
          refine ⟨trivial, ?_⟩
          obtain rfl := Option.some.inj h
          exact ⟨⟨trivial, trivial, trivial⟩, rfl, rfl⟩
        · rw [if_neg (of_decide_eq_false b15)] at h
          refine ⟨trivial, ?_⟩
          refine ⟨trivial, ?_⟩
          refine ⟨trivial, ?_⟩
          exact ⟨⟨trivial, trivial, trivial⟩, halterref20_At.l0_ok a0 a1 n (IntKind.wrap .i64 (x3 + (1 : Int))) r h⟩
      · rw [if_neg (beq_f b14)] at h
        refine ⟨b14, ?_⟩
        refine ⟨b14, ?_⟩
        refine ⟨b14, ?_⟩
        refine ⟨b14, ?_⟩
        refine ⟨rfl, ?_⟩
        refine ⟨trivial, ?_⟩
        refine ⟨trivial, ?_⟩
        refine ⟨trivial, ?_⟩
        exact ⟨⟨trivial, trivial, trivial⟩, halterref20_At.l0_ok a0 a1 n (IntKind.wrap .i64 (x3 + (1 : Int))) r h⟩
    · rw [if_neg (of_decide_eq_false b13)] at h
      obtain rfl := Option.some.inj h
      exact ⟨⟨trivial, trivial, trivial⟩, rfl, rfl⟩
def halterref20_At.f (a0 : (List Int)) (a1 : Int) : Option (Int × Int) :=
  (halterref20_May.f a0).bind fun t1 =>
  if ¬ (t1 = true) then
    some ((0 : Int), (22 : Int))
  else
    (halterref20_At.l0 a0 a1 FUEL (0 : Int)).bind fun t12 =>
    match t12 with
    | .inl t21 =>
      some ((0 : Int), (9 : Int))
    | .inr t22 =>
      some (t22, (0 : Int))
def halterref20_At.R (r : Int × Int) : Tm := .tup [.one (.sc (.int .i64 r.1)), .one (.sc (.int .i64 r.2))]
theorem halterref20_At.fun_ {a0 : (List Int)} {a1 : Int} {r : Int × Int} (h : halterref20_At.f a0 a1 = some r) : Fun cfg 9 [.agg [.row 8 (.int .i64) a0], .one (.sc (.int .i64 a1))] [] (halterref20_At.R r) [] := by
  unfold halterref20_At.f at h
  refine fun_of_run cfg_ok (f := 9) (fn := Tryd.f9) Tryd.func9 rfl (by kernel_rfl) (rs := [.tmp 4, .tmp 5]) rfl (nt := 27) rfl (l := fin) (k := (.call true [] (Bool) (fun t1 => halterref20_May.R t1) (fun t1 => (.br (.adj [] (.adj [] (.adj [.drop 0] .nil))) (.adj [] (.adj [] (.adj [.keep [1, 2, 6]] (.alt (.sub (Unit) (fun _ => (.exit 0)) (fun t21 => ⟨[.any, .any, .any, .any, .any, .any, .any, .any, .any, .any, .any, .any, .any, .any, .any, .any, .any, .any, .any, .any, .any, .any, .any, .any, .any, .any, .any], [.ex false [.row 8 (.int .i64) a0] 22], 0⟩) (fun t21 => (.adj [] (.adj [] (.adj [.drop 0] .nil))))) (.sub (Int) (fun _ => .ret) (fun t22 => ⟨[.any, .any, .any, .any, .v (.one (.sc (.int .i64 t22))), .v (.one (.sc (.int .i64 (0 : Int)))), .any, .any, .any, .any, .any, .any, .any, .any, .any, .any, .any, .any, .any, .any, .any, .any, .any, .any, .any, .any, .any], [.ex false [.row 8 (.int .i64) a0] 22], 0⟩) (fun t22 => (.adj [.drop 0] .nil))))))))))) (to_goal (q := (True) ∧ (∃ t1 : Bool, (Fun cfg 14 [.agg [.row 8 (.int .i64) a0]] [] (halterref20_May.R t1) [] ∧ True) ∧ (((!t1) = true → (True ∧ (True ∧ ((True) ∧ ((True) ∧ True) ∧ (.tup [.one (.sc (.int .i64 (0 : Int))), .one (.sc (.int .i64 (22 : Int)))] : Tm) = halterref20_At.R r ∧ ([] : List Box) = [])))) ∧ ((!t1) = false → (True ∧ (True ∧ (((True) ∧ True) ∧ ((∃ t21 : Unit, Trip cfg (.loop (cpath (Tryd.f9.body.getD .skip) [1, 1, 0, 1, 0, 0])) ⟨[.any, .v (.one (.sc (.int .i64 a1))), .v (.one (.ptr 0 ⟨0, 0, 0, 0⟩)), .any, .any, .any, .v (.one (.sc (.int .i64 (0 : Int)))), .any, .any, .any, .any, .any, .any, .any, .any, .any, .any, .any, .any, .any, .any, .any, .any, .any, .any, .any, .any], [.ex false [.row 8 (.int .i64) a0] 22], 0⟩ (fun e s => e = (.exit 0) ∧ s = ⟨[.any, .any, .any, .any, .any, .any, .any, .any, .any, .any, .any, .any, .any, .any, .any, .any, .any, .any, .any, .any, .any, .any, .any, .any, .any, .any, .any], [.ex false [.row 8 (.int .i64) a0] 22], 0⟩) ∧ (True ∧ (True ∧ ((True) ∧ ((True) ∧ True) ∧ (.tup [.one (.sc (.int .i64 (0 : Int))), .one (.sc (.int .i64 (9 : Int)))] : Tm) = halterref20_At.R r ∧ ([] : List Box) = [])))) ∨ (∃ t22 : Int, Trip cfg (.loop (cpath (Tryd.f9.body.getD .skip) [1, 1, 0, 1, 0, 0])) ⟨[.any, .v (.one (.sc (.int .i64 a1))), .v (.one (.ptr 0 ⟨0, 0, 0, 0⟩)), .any, .any, .any, .v (.one (.sc (.int .i64 (0 : Int)))), .any, .any, .any, .any, .any, .any, .any, .any, .any, .any, .any, .any, .any, .any, .any, .any, .any, .any, .any, .any], [.ex false [.row 8 (.int .i64) a0] 22], 0⟩ (fun e s => e = .ret ∧ s = ⟨[.any, .any, .any, .any, .v (.one (.sc (.int .i64 t22))), .v (.one (.sc (.int .i64 (0 : Int)))), .any, .any, .any, .any, .any, .any, .any, .any, .any, .any, .any, .any, .any, .any, .any, .any, .any, .any, .any, .any, .any], [.ex false [.row 8 (.int .i64) a0] 22], 0⟩) ∧ ((True) ∧ ((True) ∧ True) ∧ (.tup [.one (.sc (.int .i64 t22)), .one (.sc (.int .i64 (0 : Int)))] : Tm) = halterref20_At.R r ∧ ([] : List Box) = [])))))))))) (by kernel_rfl) ?_)
  refine ⟨trivial, ?_⟩
  obtain ⟨t1, ht1, h⟩ := of_bind h
  refine ⟨t1, ⟨halterref20_May.fun_ ht1, trivial⟩, ?_⟩
  refine ⟨fun b2 => ?_, fun b2 => ?_⟩
  · rw [if_pos (ff (not_t b2))] at h
    refine ⟨trivial, ?_⟩
    refine ⟨trivial, ?_⟩
    obtain rfl := Option.some.inj h
    exact ⟨trivial, ⟨trivial, trivial⟩, rfl, rfl⟩
  · rw [if_neg (not_not_intro (not_f b2))] at h
    refine ⟨trivial, ?_⟩
    refine ⟨trivial, ?_⟩
    obtain ⟨t12, ht12, h⟩ := of_bind h
    refine ⟨⟨trivial, trivial⟩, ?_⟩
    rcases t12 with t21 | t22
    · dsimp only at h
      left
      refine ⟨t21, Trip.loop FUEL (halterref20_At.l0_ok a0 a1 FUEL (0 : Int) (.inl t21) ht12), ?_⟩
      refine ⟨trivial, ?_⟩
      refine ⟨trivial, ?_⟩
      obtain rfl := Option.some.inj h
      exact ⟨trivial, ⟨trivial, trivial⟩, rfl, rfl⟩
    · dsimp only at h
      right
      refine ⟨t22, Trip.loop FUEL (halterref20_At.l0_ok a0 a1 FUEL (0 : Int) (.inr t22) ht12), ?_⟩
      obtain rfl := Option.some.inj h
      exact ⟨trivial, ⟨trivial, trivial⟩, rfl, rfl⟩
/-! halter/fds.Drop -/
def fds_Drop.f (a0 : (List Int)) (a1 : Int) : Option (Int × (List Int) × (Option Int)) :=
  (fds_At.f a0 a1).bind fun t1 =>
  if ¬ (t1.2 = none) then
    some ((0 : Int), (List.replicate 8 (0 : Int)), t1.2)
  else
    if 0 ≤ a1 ∧ a1 < ((8 : Nat) : Int) then
      if (Int.toNat a1) < 8 then
        some (t1.1, (List.set a0 (Int.toNat a1) (0 : Int)), none)
      else none
    else none
def fds_Drop.R (r : Int × (List Int) × (Option Int)) : Tm := .tup [.one (.sc (.int .i64 r.1)), .agg [.row 8 (.int .i64) r.2.1], .one (.err r.2.2)]
theorem fds_Drop.fun_ {a0 : (List Int)} {a1 : Int} {r : Int × (List Int) × (Option Int)} (h : fds_Drop.f a0 a1 = some r) : Fun cfg 10 [.agg [.row 8 (.int .i64) a0], .one (.sc (.int .i64 a1))] [] (fds_Drop.R r) [] := by
  unfold fds_Drop.f at h
  refine fun_of_run cfg_ok (f := 10) (fn := Tryd.f10) Tryd.func10 rfl (by kernel_rfl) (rs := [.tmp 4, .cell 5 24, .tmp 6]) rfl (nt := 24) rfl (l := fin) (k := (.call true [] (Int × (Option Int)) (fun t1 => fds_At.R t1) (fun t1 => (.br (.adj [] (.adj [] (.adj [.drop 0] .nil))) (.dr [(0, ⟨none, .no⟩), (1, ⟨none, .no⟩), (2, ⟨none, .no⟩), (3, ⟨none, .no⟩), (4, ⟨none, .no⟩)] (.adj [] (.adj [.drop 0] .nil))))))) (to_goal (q := (True) ∧ (∃ t1 : Int × (Option Int), (Fun cfg 8 [.agg [.row 8 (.int .i64) a0], .one (.sc (.int .i64 a1))] [] (fds_At.R t1) [] ∧ True) ∧ (True) ∧ (((!(Option.isNone t1.2)) = true → (True ∧ (True) ∧ (True ∧ (((True) ∧ True) ∧ ((True) ∧ True) ∧ (.tup [.one (.sc (.int .i64 (0 : Int))), .agg [.row 8 (.int .i64) (List.replicate 8 (0 : Int))], .one (.err t1.2)] : Tm) = fds_Drop.R r ∧ ([] : List Box) = [])))) ∧ ((!(Option.isNone t1.2)) = false → (0 ≤ a1 ∧ a1 < ((8 : Nat) : Int)) ∧ ((Int.toNat a1) < 8) ∧ (True) ∧ (True) ∧ (True ∧ (((True) ∧ True) ∧ ((True) ∧ True) ∧ (.tup [.one (.sc (.int .i64 t1.1)), .agg [.row 8 (.int .i64) (List.set a0 (Int.toNat a1) (0 : Int))], .one (.err none)] : Tm) = fds_Drop.R r ∧ ([] : List Box) = [])))))) (by kernel_rfl) ?_)
  refine ⟨trivial, ?_⟩
  obtain ⟨t1, ht1, h⟩ := of_bind h
  refine ⟨t1, ⟨fds_At.fun_ ht1, trivial⟩, ?_⟩
  refine ⟨trivial, ?_⟩
  refine ⟨fun b2 => ?_, fun b2 => ?_⟩
  · rw [if_pos (none_f (not_t b2))] at h
    refine ⟨trivial, ?_⟩
    refine ⟨trivial, ?_⟩
    refine ⟨trivial, ?_⟩
    obtain rfl := Option.some.inj h
    exact ⟨⟨trivial, trivial⟩, ⟨trivial, trivial⟩, rfl, rfl⟩
  · rw [if_neg (not_not_intro (none_t (not_f b2)))] at h
    obtain ⟨g4, h⟩ := of_guard h
    refine ⟨g4, ?_⟩
    obtain ⟨g3, h⟩ := of_guard h
    refine ⟨g3, ?_⟩
    refine ⟨trivial, trivial, ?_⟩
    refine ⟨trivial, ?_⟩
    obtain rfl := Option.some.inj h
    exact ⟨⟨trivial, trivial⟩, ⟨trivial, trivial⟩, rfl, rfl⟩
/-! halter/halterref20.Drop -/
def halterref20_Drop.f (a0 : (List Int)) (a1 : Int) : Option (Int × (List Int) × Int) :=
  (halterref20_At.f a0 a1).bind fun t1 =>
  if ¬ t1.2 = (0 : Int) then
    some ((0 : Int), (List.replicate 8 (0 : Int)), t1.2)
  else
    if 0 ≤ a1 ∧ a1 < ((8 : Nat) : Int) then
      if (Int.toNat a1) < 8 then
        some (t1.1, (List.set a0 (Int.toNat a1) (0 : Int)), (0 : Int))
      else none
    else none
def halterref20_Drop.R (r : Int × (List Int) × Int) : Tm := .tup [.one (.sc (.int .i64 r.1)), .agg [.row 8 (.int .i64) r.2.1], .one (.sc (.int .i64 r.2.2))]
theorem halterref20_Drop.fun_ {a0 : (List Int)} {a1 : Int} {r : Int × (List Int) × Int} (h : halterref20_Drop.f a0 a1 = some r) : Fun cfg 11 [.agg [.row 8 (.int .i64) a0], .one (.sc (.int .i64 a1))] [] (halterref20_Drop.R r) [] := by
  unfold halterref20_Drop.f at h
  refine fun_of_run cfg_ok (f := 11) (fn := Tryd.f11) Tryd.func11 rfl (by kernel_rfl) (rs := [.tmp 4, .cell 5 22, .tmp 6]) rfl (nt := 23) rfl (l := fin) (k := (.call true [] (Int × Int) (fun t1 => halterref20_At.R t1) (fun t1 => (.br (.adj [] (.adj [] (.adj [.drop 0] .nil))) (.dr [(0, ⟨none, .no⟩), (1, ⟨none, .no⟩), (2, ⟨none, .no⟩), (3, ⟨none, .no⟩), (4, ⟨none, .no⟩)] (.adj [] (.adj [.drop 0] .nil))))))) (to_goal (q := (True) ∧ (∃ t1 : Int × Int, (Fun cfg 9 [.agg [.row 8 (.int .i64) a0], .one (.sc (.int .i64 a1))] [] (halterref20_At.R t1) [] ∧ True) ∧ (True) ∧ (((t1.2 != (0 : Int)) = true → (True ∧ (True) ∧ (True ∧ (((True) ∧ True) ∧ ((True) ∧ True) ∧ (.tup [.one (.sc (.int .i64 (0 : Int))), .agg [.row 8 (.int .i64) (List.replicate 8 (0 : Int))], .one (.sc (.int .i64 t1.2))] : Tm) = halterref20_Drop.R r ∧ ([] : List Box) = [])))) ∧ ((t1.2 != (0 : Int)) = false → (0 ≤ a1 ∧ a1 < ((8 : Nat) : Int)) ∧ ((Int.toNat a1) < 8) ∧ (True) ∧ (True) ∧ (True ∧ (((True) ∧ True) ∧ ((True) ∧ True) ∧ (.tup [.one (.sc (.int .i64 t1.1)), .agg [.row 8 (.int .i64) (List.set a0 (Int.toNat a1) (0 : Int))], .one (.sc (.int .i64 (0 : Int)))] : Tm) = halterref20_Drop.R r ∧ ([] : List Box) = [])))))) (by kernel_rfl) ?_)
  refine ⟨trivial, ?_⟩
  obtain ⟨t1, ht1, h⟩ := of_bind h
  refine ⟨t1, ⟨halterref20_At.fun_ ht1, trivial⟩, ?_⟩
  refine ⟨trivial, ?_⟩
  refine ⟨fun b2 => ?_, fun b2 => ?_⟩
  · rw [if_pos (bne_t b2)] at h
    refine ⟨trivial, ?_⟩
    refine ⟨trivial, ?_⟩
    refine ⟨trivial, ?_⟩
    obtain rfl := Option.some.inj h
    exact ⟨⟨trivial, trivial⟩, ⟨trivial, trivial⟩, rfl, rfl⟩
  · rw [if_neg (not_not_intro (bne_f b2))] at h
    obtain ⟨g4, h⟩ := of_guard h
    refine ⟨g4, ?_⟩
    obtain ⟨g3, h⟩ := of_guard h
    refine ⟨g3, ?_⟩
    refine ⟨trivial, trivial, ?_⟩
    refine ⟨trivial, ?_⟩
    obtain rfl := Option.some.inj h
    exact ⟨⟨trivial, trivial⟩, ⟨trivial, trivial⟩, rfl, rfl⟩
/-! halter/fds.Dup -/
def fds_Dup.f (a0 : (List Int)) (a1 : Int) : Option (Int × (List Int) × (Option Int)) :=
  (fds_At.f a0 a1).bind fun t1 =>
  if ¬ (t1.2 = none) then
    some ((0 : Int), (List.replicate 8 (0 : Int)), t1.2)
  else
    (fds_Put.f a0 t1.1).bind fun t3 =>
    some (t3.1, t3.2.1, t3.2.2)
def fds_Dup.R (r : Int × (List Int) × (Option Int)) : Tm := .tup [.one (.sc (.int .i64 r.1)), .agg [.row 8 (.int .i64) r.2.1], .one (.err r.2.2)]
theorem fds_Dup.fun_ {a0 : (List Int)} {a1 : Int} {r : Int × (List Int) × (Option Int)} (h : fds_Dup.f a0 a1 = some r) : Fun cfg 12 [.agg [.row 8 (.int .i64) a0], .one (.sc (.int .i64 a1))] [] (fds_Dup.R r) [] := by
  unfold fds_Dup.f at h
  refine fun_of_run cfg_ok (f := 12) (fn := Tryd.f12) Tryd.func12 rfl (by kernel_rfl) (rs := [.tmp 4, .cell 5 24, .tmp 6]) rfl (nt := 25) rfl (l := fin) (k := (.call true [] (Int × (Option Int)) (fun t1 => fds_At.R t1) (fun t1 => (.br (.adj [] (.adj [] (.adj [.drop 0] .nil))) (.call true [] (Int × (List Int) × (Option Int)) (fun t3 => fds_Put.R t3) (fun t3 => (.adj [] (.adj [.drop 0] .nil)))))))) (to_goal (q := (True) ∧ (∃ t1 : Int × (Option Int), (Fun cfg 8 [.agg [.row 8 (.int .i64) a0], .one (.sc (.int .i64 a1))] [] (fds_At.R t1) [] ∧ True) ∧ (True) ∧ (((!(Option.isNone t1.2)) = true → (True ∧ (True) ∧ (True ∧ (((True) ∧ True) ∧ ((True) ∧ True) ∧ (.tup [.one (.sc (.int .i64 (0 : Int))), .agg [.row 8 (.int .i64) (List.replicate 8 (0 : Int))], .one (.err t1.2)] : Tm) = fds_Dup.R r ∧ ([] : List Box) = [])))) ∧ ((!(Option.isNone t1.2)) = false → (True) ∧ (∃ t3 : Int × (List Int) × (Option Int), (Fun cfg 6 [.agg [.row 8 (.int .i64) a0], .one (.sc (.int .i64 t1.1))] [] (fds_Put.R t3) [] ∧ True) ∧ (True) ∧ (True ∧ (((True) ∧ True) ∧ ((True) ∧ True) ∧ (.tup [.one (.sc (.int .i64 t3.1)), .agg [.row 8 (.int .i64) t3.2.1], .one (.err t3.2.2)] : Tm) = fds_Dup.R r ∧ ([] : List Box) = []))))))) (by kernel_rfl) ?_)
  refine ⟨trivial, ?_⟩
  obtain ⟨t1, ht1, h⟩ := of_bind h
  refine ⟨t1, ⟨fds_At.fun_ ht1, trivial⟩, ?_⟩
  refine ⟨trivial, ?_⟩
  refine ⟨fun b2 => ?_, fun b2 => ?_⟩
  · rw [if_pos (none_f (not_t b2))] at h
    refine ⟨trivial, ?_⟩
    refine ⟨trivial, ?_⟩
    refine ⟨trivial, ?_⟩
    obtain rfl := Option.some.inj h
    exact ⟨⟨trivial, trivial⟩, ⟨trivial, trivial⟩, rfl, rfl⟩
  · rw [if_neg (not_not_intro (none_t (not_f b2)))] at h
    refine ⟨trivial, ?_⟩
    obtain ⟨t3, ht3, h⟩ := of_bind h
    refine ⟨t3, ⟨fds_Put.fun_ ht3, trivial⟩, ?_⟩
    refine ⟨trivial, ?_⟩
    refine ⟨trivial, ?_⟩
    obtain rfl := Option.some.inj h
    exact ⟨⟨trivial, trivial⟩, ⟨trivial, trivial⟩, rfl, rfl⟩
/-! halter/halterref20.Dup -/
def halterref20_Dup.f (a0 : (List Int)) (a1 : Int) : Option (Int × (List Int) × Int) :=
  (halterref20_At.f a0 a1).bind fun t1 =>
  if ¬ t1.2 = (0 : Int) then
    some ((0 : Int), (List.replicate 8 (0 : Int)), t1.2)
  else
    (halterref20_Put.f a0 t1.1).bind fun t3 =>
    some (t3.1, t3.2.1, t3.2.2)
def halterref20_Dup.R (r : Int × (List Int) × Int) : Tm := .tup [.one (.sc (.int .i64 r.1)), .agg [.row 8 (.int .i64) r.2.1], .one (.sc (.int .i64 r.2.2))]
theorem halterref20_Dup.fun_ {a0 : (List Int)} {a1 : Int} {r : Int × (List Int) × Int} (h : halterref20_Dup.f a0 a1 = some r) : Fun cfg 13 [.agg [.row 8 (.int .i64) a0], .one (.sc (.int .i64 a1))] [] (halterref20_Dup.R r) [] := by
  unfold halterref20_Dup.f at h
  refine fun_of_run cfg_ok (f := 13) (fn := Tryd.f13) Tryd.func13 rfl (by kernel_rfl) (rs := [.tmp 4, .cell 5 22, .tmp 6]) rfl (nt := 25) rfl (l := fin) (k := (.call true [] (Int × Int) (fun t1 => halterref20_At.R t1) (fun t1 => (.br (.adj [] (.adj [] (.adj [.drop 0] .nil))) (.call true [] (Int × (List Int) × Int) (fun t3 => halterref20_Put.R t3) (fun t3 => (.adj [] (.adj [.drop 0] .nil)))))))) (to_goal (q := (True) ∧ (∃ t1 : Int × Int, (Fun cfg 9 [.agg [.row 8 (.int .i64) a0], .one (.sc (.int .i64 a1))] [] (halterref20_At.R t1) [] ∧ True) ∧ (True) ∧ (((t1.2 != (0 : Int)) = true → (True ∧ (True) ∧ (True ∧ (((True) ∧ True) ∧ ((True) ∧ True) ∧ (.tup [.one (.sc (.int .i64 (0 : Int))), .agg [.row 8 (.int .i64) (List.replicate 8 (0 : Int))], .one (.sc (.int .i64 t1.2))] : Tm) = halterref20_Dup.R r ∧ ([] : List Box) = [])))) ∧ ((t1.2 != (0 : Int)) = false → (True) ∧ (∃ t3 : Int × (List Int) × Int, (Fun cfg 7 [.agg [.row 8 (.int .i64) a0], .one (.sc (.int .i64 t1.1))] [] (halterref20_Put.R t3) [] ∧ True) ∧ (True) ∧ (True ∧ (((True) ∧ True) ∧ ((True) ∧ True) ∧ (.tup [.one (.sc (.int .i64 t3.1)), .agg [.row 8 (.int .i64) t3.2.1], .one (.sc (.int .i64 t3.2.2))] : Tm) = halterref20_Dup.R r ∧ ([] : List Box) = []))))))) (by kernel_rfl) ?_)
  refine ⟨trivial, ?_⟩
  obtain ⟨t1, ht1, h⟩ := of_bind h
  refine ⟨t1, ⟨halterref20_At.fun_ ht1, trivial⟩, ?_⟩
  refine ⟨trivial, ?_⟩
  refine ⟨fun b2 => ?_, fun b2 => ?_⟩
  · rw [if_pos (bne_t b2)] at h
    refine ⟨trivial, ?_⟩
    refine ⟨trivial, ?_⟩
    refine ⟨trivial, ?_⟩
    obtain rfl := Option.some.inj h
    exact ⟨⟨trivial, trivial⟩, ⟨trivial, trivial⟩, rfl, rfl⟩
  · rw [if_neg (not_not_intro (bne_f b2))] at h
    refine ⟨trivial, ?_⟩
    obtain ⟨t3, ht3, h⟩ := of_bind h
    refine ⟨t3, ⟨halterref20_Put.fun_ ht3, trivial⟩, ?_⟩
    refine ⟨trivial, ?_⟩
    refine ⟨trivial, ?_⟩
    obtain rfl := Option.some.inj h
    exact ⟨⟨trivial, trivial⟩, ⟨trivial, trivial⟩, rfl, rfl⟩
/-! halter/halterref20.Files -/
def halterref20_Files.l0 (a0 : (List Int)) : Nat → (List Int) → Int → Option (List Int)
  | 0, _, _ => none
  | n + 1, x20, x21 =>
    if x21 < (8 : Int) then
      (halterref20_May.f a0).bind fun t34 =>
      if t34 = true then
        if 0 ≤ x21 ∧ x21 < ((8 : Nat) : Int) then
          if (Int.toNat x21) < 8 then
            if (List.getD a0 (Int.toNat x21) (0 : Int)) > (0 : Int) then
              if 0 ≤ x21 ∧ x21 < ((8 : Nat) : Int) then
                if (Int.toNat x21) < 8 then
                  if (0 = 0 ∧ 1 = 1) ∧ 0 = 0 ∧ (List.length x20) = (List.length x20) ∧ (((List.length x20) + 1) * 8 ≤ 140737488355328 ∧ (List.length x20) + 1 ≤ 9223372036854775807) then
                    halterref20_Files.l0 a0 n (x20 ++ [(IntKind.wrap .i64 ((List.getD a0 (Int.toNat x21) (0 : Int)) - (1 : Int)))]) (IntKind.wrap .i64 (x21 + (1 : Int)))
                  else none
                else none
              else none
            else
              halterref20_Files.l0 a0 n x20 (IntKind.wrap .i64 (x21 + (1 : Int)))
          else none
        else none
      else
        some x20
    else
      some x20
def halterref20_Files.l0_S (a0 : (List Int)) (x20 : List Int) (x21 : Int) : St := ⟨[.any, .v (.one (.ptr 0 ⟨0, 0, 0, 0⟩)), .any, .v (.one (.os 1 0 0 1 (List.length x20) none)), .v (.one (.sc (.int .i64 x21))), .any, .any, .any, .any, .any, .any, .any, .any, .any, .any, .any, .any, .any, .any, .any, .any, .any, .any, .any, .any], [.ex false [.row 8 (.int .i64) a0] 22, .gro false (.int .i64) x20 3], 0⟩
def halterref20_Files.l0_Q (a0 : (List Int)) (t : (List Int)) : Exit → St → Prop := fun e s => e = (.exit 0) ∧ s = ⟨[.any, .any, .any, .v (.one (.os 1 0 0 1 (List.length t) none)), .any, .any, .any, .any, .any, .any, .any, .any, .any, .any, .any, .any, .any, .any, .any, .any, .any, .any, .any, .any, .any], [.ex false [.row 8 (.int .i64) a0] 22, .gro false (.int .i64) t 3], 0⟩
theorem halterref20_Files.l0_ok (a0 : (List Int)) : ∀ (n : Nat) (x20 : List Int) (x21 : Int) (r : (List Int)), halterref20_Files.l0 a0 n x20 x21 = some r → TripN cfg (cpath (Tryd.f15.body.getD .skip) [1, 1, 0, 1, 0, 0]) n (halterref20_Files.l0_S a0 x20 x21) (halterref20_Files.l0_Q a0 r)
  | 0, _, _, r, h => by cases h
  | n + 1, x20, x21, r, h => by
    rw [halterref20_Files.l0] at h
    refine TripN.of_run cfg_ok (k := (.br (.one true (.call true [] (Bool) (fun t34 => halterref20_May.R t34) (fun t34 => (.one true (.br (.br (.d (.b true) (.adj [] (.adj [.keep [1, 3, 4], .drop 2] .nil))) (.adj [] (.adj [] (.adj [.keep [1, 3, 4], .drop 2] .nil)))) (.adj [.keep [3], .drop 2] .nil)))))) (.one false (.one false (.one false (.adj [.keep [3], .drop 2] .nil)))))) (to_goal (q := (True) ∧ (((decide (x21 < (8 : Int))) = true → (True) ∧ ((decide (x21 < (8 : Int))) = true ∧ (∃ t34 : Bool, (Fun cfg 14 [.agg [.row 8 (.int .i64) a0]] [] (halterref20_May.R t34) [] ∧ True) ∧ ((decide (x21 < (8 : Int))) = true ∧ ((t34 = true → (0 ≤ x21 ∧ x21 < ((8 : Nat) : Int)) ∧ ((Int.toNat x21) < 8) ∧ (True) ∧ (((decide ((List.getD a0 (Int.toNat x21) (0 : Int)) > (0 : Int))) = true → (0 ≤ x21 ∧ x21 < ((8 : Nat) : Int)) ∧ ((Int.toNat x21) < 8) ∧ (True) ∧ ((0 = 0 ∧ 1 = 1) ∧ 0 = 0 ∧ (List.length x20) = (List.length x20) ∧ (((List.length x20) + 1) * 8 ≤ 140737488355328 ∧ (List.length x20) + 1 ≤ 9223372036854775807)) ∧ (True ∧ (True) ∧ (((True) ∧ (True) ∧ True) ∧ TripN cfg (cpath (Tryd.f15.body.getD .skip) [1, 1, 0, 1, 0, 0]) n (halterref20_Files.l0_S a0 (x20 ++ [(IntKind.wrap .i64 ((List.getD a0 (Int.toNat x21) (0 : Int)) - (1 : Int)))]) (IntKind.wrap .i64 (x21 + (1 : Int)))) (halterref20_Files.l0_Q a0 r)))) ∧ ((decide ((List.getD a0 (Int.toNat x21) (0 : Int)) > (0 : Int))) = false → (True ∧ (True ∧ (True) ∧ (((True) ∧ (True) ∧ True) ∧ TripN cfg (cpath (Tryd.f15.body.getD .skip) [1, 1, 0, 1, 0, 0]) n (halterref20_Files.l0_S a0 x20 (IntKind.wrap .i64 (x21 + (1 : Int)))) (halterref20_Files.l0_Q a0 r))))))) ∧ (t34 = false → (((True) ∧ (True) ∧ True) ∧ halterref20_Files.l0_Q a0 r (.exit 0) ⟨[.any, .any, .any, .v (.one (.os 1 0 0 1 (List.length x20) none)), .any, .any, .any, .any, .any, .any, .any, .any, .any, .any, .any, .any, .any, .any, .any, .any, .any, .any, .any, .any, .any], [.ex false [.row 8 (.int .i64) a0] 22, .gro false (.int .i64) x20 3], 0⟩))))))) ∧ ((decide (x21 < (8 : Int))) = false → ((decide (x21 < (8 : Int))) = false ∧ ((decide (x21 < (8 : Int))) = false ∧ (false = false ∧ (((True) ∧ (True) ∧ True) ∧ halterref20_Files.l0_Q a0 r (.exit 0) ⟨[.any, .any, .any, .v (.one (.os 1 0 0 1 (List.length x20) none)), .any, .any, .any, .any, .any, .any, .any, .any, .any, .any, .any, .any, .any, .any, .any, .any, .any, .any, .any, .any, .any], [.ex false [.row 8 (.int .i64) a0] 22, .gro false (.int .i64) x20 3], 0⟩))))))) (by kernel_rfl) ?_)
    refine ⟨trivial, ?_⟩
    refine ⟨fun b33 => ?_, fun b33 => ?_⟩
    · rw [if_pos (of_decide_eq_true b33)] at h
      refine ⟨trivial, ?_⟩
      refine ⟨b33, ?_⟩
      obtain ⟨t34, ht34, h⟩ := of_bind h
      refine ⟨t34, ⟨halterref20_May.fun_ ht34, trivial⟩, ?_⟩
      refine ⟨b33, ?_⟩
      refine ⟨fun b35 => ?_, fun b35 => ?_⟩
      · rw [if_pos b35] at h
        obtain ⟨g41, h⟩ := of_guard h
        refine ⟨g41, ?_⟩
        obtain ⟨g40, h⟩ := of_guard h
        refine ⟨g40, ?_⟩
        refine ⟨trivial, ?_⟩
        refine ⟨fun b36 => ?_, fun b36 => ?_⟩
        · rw [if_pos (of_decide_eq_true b36)] at h
          obtain ⟨g39, h⟩ := of_guard h
          refine ⟨g39, ?_⟩
          obtain ⟨g38, h⟩ := of_guard h
          refine ⟨g38, ?_⟩
          refine ⟨trivial, ?_⟩
          obtain ⟨g37, h⟩ := of_guard h
          refine ⟨g37, ?_⟩
          refine ⟨trivial, ?_⟩
          refine ⟨trivial, ?_⟩
          exact ⟨⟨trivial, trivial, trivial⟩, halterref20_Files.l0_ok a0 n (x20 ++ [(IntKind.wrap .i64 ((List.getD a0 (Int.toNat x21) (0 : Int)) - (1 : Int)))]) (IntKind.wrap .i64 (x21 + (1 : Int))) r h⟩
        · rw [if_neg (of_decide_eq_false b36)] at h
          refine ⟨trivial, ?_⟩
          refine ⟨trivial, ?_⟩
          refine ⟨trivial, ?_⟩
          exact ⟨⟨trivial, trivial, trivial⟩, halterref20_Files.l0_ok a0 n x20 (IntKind.wrap .i64 (x21 + (1 : Int))) r h⟩
      · rw [if_neg (ff b35)] at h
        obtain rfl := Option.some.inj h
        exact ⟨⟨trivial, trivial, trivial⟩, rfl, rfl⟩
    · rw [if_neg (of_decide_eq_false b33)] at h
      refine ⟨b33, ?_⟩
      refine ⟨b33, ?_⟩
      refine ⟨rfl, ?_⟩
      obtain rfl := Option.some.inj h
      exact ⟨⟨trivial, trivial, trivial⟩, rfl, rfl⟩
def halterref20_Files.f (a0 : (List Int)) : Option (List Int) :=
  (halterref20_Files.l0 a0 FUEL ([] : List Int) (0 : Int)).bind fun t32 =>
  some t32
def halterref20_Files.R (r : (List Int)) : Tm := .v (.one (.fs (.int .i64) r false))
theorem halterref20_Files.fun_ {a0 : (List Int)} {r : (List Int)} (h : halterref20_Files.f a0 = some r) : Fun cfg 15 [.agg [.row 8 (.int .i64) a0]] [] (halterref20_Files.R r) [] := by
  unfold halterref20_Files.f at h
  refine fun_of_run cfg_ok (f := 15) (fn := Tryd.f15) Tryd.func15 rfl (by kernel_rfl) (rs := [.tmp 2]) rfl (nt := 25) rfl (l := fin) (k := (.adj [] (.adj [] (.adj [] (.adj [.keep [1, 3, 4], .nilGro 3 (.int .i64) 3] (.sub ((List Int)) (fun _ => (.exit 0)) (fun t32 => ⟨[.any, .any, .any, .v (.one (.os 1 0 0 1 (List.length t32) none)), .any, .any, .any, .any, .any, .any, .any, .any, .any, .any, .any, .any, .any, .any, .any, .any, .any, .any, .any, .any, .any], [.ex false [.row 8 (.int .i64) a0] 22, .gro false (.int .i64) t32 3], 0⟩) (fun t32 => (.adj [] (.adj [] (.adj [.co 0 true [], .drop 0] .nil)))))))))) (to_goal (q := (True ∧ (True ∧ (True ∧ (((True) ∧ (True) ∧ True) ∧ (∃ t32 : (List Int), Trip cfg (.loop (cpath (Tryd.f15.body.getD .skip) [1, 1, 0, 1, 0, 0])) ⟨[.any, .v (.one (.ptr 0 ⟨0, 0, 0, 0⟩)), .any, .v (.one (.os 1 0 0 1 0 none)), .v (.one (.sc (.int .i64 (0 : Int)))), .any, .any, .any, .any, .any, .any, .any, .any, .any, .any, .any, .any, .any, .any, .any, .any, .any, .any, .any, .any], [.ex false [.row 8 (.int .i64) a0] 22, .gro false (.int .i64) ([] : List Int) 3], 0⟩ (fun e s => e = (.exit 0) ∧ s = ⟨[.any, .any, .any, .v (.one (.os 1 0 0 1 (List.length t32) none)), .any, .any, .any, .any, .any, .any, .any, .any, .any, .any, .any, .any, .any, .any, .any, .any, .any, .any, .any, .any, .any], [.ex false [.row 8 (.int .i64) a0] 22, .gro false (.int .i64) t32 3], 0⟩) ∧ (True ∧ (True ∧ ((True) ∧ ((((0 = 0 ∧ (List.length t32) = (List.length t32))) ∧ True) ∧ (True) ∧ True) ∧ (.v (.one (.fs (.int .i64) t32 false)) : Tm) = halterref20_Files.R r ∧ ([] : List Box) = []))))))))) (by kernel_rfl) ?_)
  refine ⟨trivial, ?_⟩
  refine ⟨trivial, ?_⟩
  refine ⟨trivial, ?_⟩
  obtain ⟨t32, ht32, h⟩ := of_bind h
  refine ⟨⟨trivial, trivial, trivial⟩, t32, Trip.loop FUEL (halterref20_Files.l0_ok a0 FUEL ([] : List Int) (0 : Int) t32 ht32), ?_⟩
  refine ⟨trivial, ?_⟩
  refine ⟨trivial, ?_⟩
  obtain rfl := Option.some.inj h
  exact ⟨trivial, ⟨⟨⟨rfl, rfl⟩, trivial⟩, trivial, trivial⟩, rfl, rfl⟩
/-! halter/fds.Files -/
def fds_Files.l0 (a0 : (List Int)) : Nat → (List Int) → Int → Option (List Int)
  | 0, _, _ => none
  | n + 1, x12, x13 =>
    if x13 < (8 : Int) then
      if 0 ≤ x13 ∧ x13 < ((8 : Nat) : Int) then
        if (List.getD a0 (Int.toNat x13) (0 : Int)) > (0 : Int) then
          if (0 = 0 ∧ 1 = 1) ∧ 0 = 0 ∧ (List.length x12) = (List.length x12) ∧ (((List.length x12) + 1) * 8 ≤ 140737488355328 ∧ (List.length x12) + 1 ≤ 9223372036854775807) then
            fds_Files.l0 a0 n (x12 ++ [(IntKind.wrap .i64 ((List.getD a0 (Int.toNat x13) (0 : Int)) - (1 : Int)))]) (IntKind.wrap .i64 (x13 + (1 : Int)))
          else none
        else
          fds_Files.l0 a0 n x12 (IntKind.wrap .i64 (x13 + (1 : Int)))
      else none
    else
      some x12
def fds_Files.l0_S (a0 : (List Int)) (x12 : List Int) (x13 : Int) : St := ⟨[.any, .any, .any, .v (.one (.os 1 0 0 1 (List.length x12) none)), .any, .any, .any, .any, .any, .any, .v (.agg [.row 8 (.int .i64) a0]), .v (.one (.sc (.int .i64 x13))), .any, .any, .any, .any, .any, .any, .any, .any, .any, .any, .any], [.ex false [.row 8 (.int .i64) a0] 24, .gro false (.int .i64) x12 3], 0⟩
def fds_Files.l0_Q (a0 : (List Int)) (t : (List Int)) : Exit → St → Prop := fun e s => e = (.exit 0) ∧ s = ⟨[.any, .any, .any, .v (.one (.os 1 0 0 1 (List.length t) none)), .any, .any, .any, .any, .any, .any, .any, .any, .any, .any, .any, .any, .any, .any, .any, .any, .any, .any, .any], [.ex false [.row 8 (.int .i64) a0] 24, .gro false (.int .i64) t 3], 0⟩
theorem fds_Files.l0_ok (a0 : (List Int)) : ∀ (n : Nat) (x12 : List Int) (x13 : Int) (r : (List Int)), fds_Files.l0 a0 n x12 x13 = some r → TripN cfg (cpath (Tryd.f18.body.getD .skip) [1, 1, 1, 0, 1, 0, 0]) n (fds_Files.l0_S a0 x12 x13) (fds_Files.l0_Q a0 r)
  | 0, _, _, r, h => by cases h
  | n + 1, x12, x13, r, h => by
    rw [fds_Files.l0] at h
    refine TripN.of_run cfg_ok (k := (.br (.br (.d (.b true) (.adj [] (.adj [.keep [3, 10, 11], .drop 2] .nil))) (.adj [] (.adj [] (.adj [.keep [3, 10, 11], .drop 2] .nil)))) (.adj [.keep [3], .drop 2] .nil))) (to_goal (q := (True) ∧ (((decide (x13 < (8 : Int))) = true → (0 ≤ x13 ∧ x13 < ((8 : Nat) : Int)) ∧ (True) ∧ (((decide ((List.getD a0 (Int.toNat x13) (0 : Int)) > (0 : Int))) = true → (True) ∧ ((0 = 0 ∧ 1 = 1) ∧ 0 = 0 ∧ (List.length x12) = (List.length x12) ∧ (((List.length x12) + 1) * 8 ≤ 140737488355328 ∧ (List.length x12) + 1 ≤ 9223372036854775807)) ∧ (True ∧ (True) ∧ (((True) ∧ (True) ∧ True) ∧ TripN cfg (cpath (Tryd.f18.body.getD .skip) [1, 1, 1, 0, 1, 0, 0]) n (fds_Files.l0_S a0 (x12 ++ [(IntKind.wrap .i64 ((List.getD a0 (Int.toNat x13) (0 : Int)) - (1 : Int)))]) (IntKind.wrap .i64 (x13 + (1 : Int)))) (fds_Files.l0_Q a0 r)))) ∧ ((decide ((List.getD a0 (Int.toNat x13) (0 : Int)) > (0 : Int))) = false → (True ∧ (True ∧ (True) ∧ (((True) ∧ (True) ∧ True) ∧ TripN cfg (cpath (Tryd.f18.body.getD .skip) [1, 1, 1, 0, 1, 0, 0]) n (fds_Files.l0_S a0 x12 (IntKind.wrap .i64 (x13 + (1 : Int)))) (fds_Files.l0_Q a0 r))))))) ∧ ((decide (x13 < (8 : Int))) = false → (((True) ∧ (True) ∧ True) ∧ fds_Files.l0_Q a0 r (.exit 0) ⟨[.any, .any, .any, .v (.one (.os 1 0 0 1 (List.length x12) none)), .any, .any, .any, .any, .any, .any, .any, .any, .any, .any, .any, .any, .any, .any, .any, .any, .any, .any, .any], [.ex false [.row 8 (.int .i64) a0] 24, .gro false (.int .i64) x12 3], 0⟩)))) (by kernel_rfl) ?_)
    refine ⟨trivial, ?_⟩
    refine ⟨fun b20 => ?_, fun b20 => ?_⟩
    · rw [if_pos (of_decide_eq_true b20)] at h
      obtain ⟨g23, h⟩ := of_guard h
      refine ⟨g23, ?_⟩
      refine ⟨trivial, ?_⟩
      refine ⟨fun b21 => ?_, fun b21 => ?_⟩
      · rw [if_pos (of_decide_eq_true b21)] at h
        refine ⟨trivial, ?_⟩
        obtain ⟨g22, h⟩ := of_guard h
        refine ⟨g22, ?_⟩
        refine ⟨trivial, ?_⟩
        refine ⟨trivial, ?_⟩
        exact ⟨⟨trivial, trivial, trivial⟩, fds_Files.l0_ok a0 n (x12 ++ [(IntKind.wrap .i64 ((List.getD a0 (Int.toNat x13) (0 : Int)) - (1 : Int)))]) (IntKind.wrap .i64 (x13 + (1 : Int))) r h⟩
      · rw [if_neg (of_decide_eq_false b21)] at h
        refine ⟨trivial, ?_⟩
        refine ⟨trivial, ?_⟩
        refine ⟨trivial, ?_⟩
        exact ⟨⟨trivial, trivial, trivial⟩, fds_Files.l0_ok a0 n x12 (IntKind.wrap .i64 (x13 + (1 : Int))) r h⟩
    · rw [if_neg (of_decide_eq_false b20)] at h
      obtain rfl := Option.some.inj h
      exact ⟨⟨trivial, trivial, trivial⟩, rfl, rfl⟩
def fds_Files.f (a0 : (List Int)) : Option (List Int) :=
  (fds_Check.f a0).bind fun t1 =>
  if ¬ (t1 = none) then
    some ([] : List Int)
  else
    (fds_Files.l0 a0 FUEL ([] : List Int) (0 : Int)).bind fun t19 =>
    some t19
def fds_Files.R (r : (List Int)) : Tm := .v (.one (.fs (.int .i64) r false))
theorem fds_Files.fun_ {a0 : (List Int)} {r : (List Int)} (h : fds_Files.f a0 = some r) : Fun cfg 18 [.agg [.row 8 (.int .i64) a0]] [] (fds_Files.R r) [] := by
  unfold fds_Files.f at h
  refine fun_of_run cfg_ok (f := 18) (fn := Tryd.f18) Tryd.func18 rfl (by kernel_rfl) (rs := [.tmp 2]) rfl (nt := 23) rfl (l := fin) (k := (.call true [] ((Option Int)) (fun t1 => fds_Check.R t1) (fun t1 => (.br (.adj [] (.adj [] (.adj [.co 0 true [(.int .i64)], .drop 0] .nil))) (.adj [] (.adj [] (.adj [] (.adj [.keep [3, 10, 11], .nilGro 3 (.int .i64) 3] (.sub ((List Int)) (fun _ => (.exit 0)) (fun t19 => ⟨[.any, .any, .any, .v (.one (.os 1 0 0 1 (List.length t19) none)), .any, .any, .any, .any, .any, .any, .any, .any, .any, .any, .any, .any, .any, .any, .any, .any, .any, .any, .any], [.ex false [.row 8 (.int .i64) a0] 24, .gro false (.int .i64) t19 3], 0⟩) (fun t19 => (.adj [] (.adj [] (.adj [.co 0 true [], .drop 0] .nil))))))))))))) (to_goal (q := (True) ∧ (∃ t1 : (Option Int), (Fun cfg 20 [.agg [.row 8 (.int .i64) a0]] [] (fds_Check.R t1) [] ∧ True) ∧ (True) ∧ (((!(Option.isNone t1)) = true → (True ∧ (True ∧ ((True) ∧ ((True) ∧ (True) ∧ True) ∧ (.v (.one (.fs (.int .i64) ([] : List Int) false)) : Tm) = fds_Files.R r ∧ ([] : List Box) = [])))) ∧ ((!(Option.isNone t1)) = false → (True ∧ (True ∧ (True ∧ (True) ∧ (((True) ∧ (True) ∧ True) ∧ (∃ t19 : (List Int), Trip cfg (.loop (cpath (Tryd.f18.body.getD .skip) [1, 1, 1, 0, 1, 0, 0])) ⟨[.any, .any, .any, .v (.one (.os 1 0 0 1 0 none)), .any, .any, .any, .any, .any, .any, .v (.agg [.row 8 (.int .i64) a0]), .v (.one (.sc (.int .i64 (0 : Int)))), .any, .any, .any, .any, .any, .any, .any, .any, .any, .any, .any], [.ex false [.row 8 (.int .i64) a0] 24, .gro false (.int .i64) ([] : List Int) 3], 0⟩ (fun e s => e = (.exit 0) ∧ s = ⟨[.any, .any, .any, .v (.one (.os 1 0 0 1 (List.length t19) none)), .any, .any, .any, .any, .any, .any, .any, .any, .any, .any, .any, .any, .any, .any, .any, .any, .any, .any, .any], [.ex false [.row 8 (.int .i64) a0] 24, .gro false (.int .i64) t19 3], 0⟩) ∧ (True ∧ (True ∧ ((True) ∧ ((((0 = 0 ∧ (List.length t19) = (List.length t19))) ∧ True) ∧ (True) ∧ True) ∧ (.v (.one (.fs (.int .i64) t19 false)) : Tm) = fds_Files.R r ∧ ([] : List Box) = [])))))))))))) (by kernel_rfl) ?_)
  refine ⟨trivial, ?_⟩
  obtain ⟨t1, ht1, h⟩ := of_bind h
  refine ⟨t1, ⟨fds_Check.fun_ ht1, trivial⟩, ?_⟩
  refine ⟨trivial, ?_⟩
  refine ⟨fun b2 => ?_, fun b2 => ?_⟩
  · rw [if_pos (none_f (not_t b2))] at h
    refine ⟨trivial, ?_⟩
    refine ⟨trivial, ?_⟩
    obtain rfl := Option.some.inj h
    exact ⟨trivial, ⟨trivial, trivial, trivial⟩, rfl, rfl⟩
  · rw [if_neg (not_not_intro (none_t (not_f b2)))] at h
    refine ⟨trivial, ?_⟩
    refine ⟨trivial, ?_⟩
    refine ⟨trivial, ?_⟩
    refine ⟨trivial, ?_⟩
    obtain ⟨t19, ht19, h⟩ := of_bind h
    refine ⟨⟨trivial, trivial, trivial⟩, t19, Trip.loop FUEL (fds_Files.l0_ok a0 FUEL ([] : List Int) (0 : Int) t19 ht19), ?_⟩
    refine ⟨trivial, ?_⟩
    refine ⟨trivial, ?_⟩
    obtain rfl := Option.some.inj h
    exact ⟨trivial, ⟨⟨⟨rfl, rfl⟩, trivial⟩, trivial, trivial⟩, rfl, rfl⟩
/-! halter/halterlaw20.ints -/
def halterlaw20_ints.l0 (a0 : (List Int)) (a1 : (List Int)) : Nat → Int → Option ((Unit) ⊕ (Unit))
  | 0, _ => none
  | n + 1, x2 =>
    if x2 < (((List.length a0) : Nat) : Int) then
      if 0 ≤ x2 ∧ x2 < (((List.length a0) : Nat) : Int) then
        if 0 ≤ x2 ∧ x2 < (((List.length a1) : Nat) : Int) then
          if ¬ (List.getD a0 (Int.toNat x2) (0 : Int)) = (List.getD a1 (Int.toNat x2) (0 : Int)) then
            some (.inr ())
          else
            halterlaw20_ints.l0 a0 a1 n (IntKind.wrap .i64 (x2 + (1 : Int)))
        else none
      else none
    else
      some (.inl ())
def halterlaw20_ints.l0_S (a0 : (List Int)) (a1 : (List Int)) (x2 : Int) : St := ⟨[.v (.one (.fs (.int .i64) a0 false)), .v (.one (.fs (.int .i64) a1 false)), .any, .any, .any, .v (.one (.sc (.int .i64 x2))), .any, .any, .any, .any, .any, .any, .any, .any, .any, .any, .any, .any, .any, .any, .any, .any, .any, .any, .any, .any], [], 0⟩
def halterlaw20_ints.l0_Q (a0 : (List Int)) (a1 : (List Int)) : (Unit) ⊕ (Unit) → Exit → St → Prop
  | .inl t => fun e s => e = (.exit 0) ∧ s = ⟨[.any, .any, .any, .any, .any, .any, .any, .any, .any, .any, .any, .any, .any, .any, .any, .any, .any, .any, .any, .any, .any, .any, .any, .any, .any, .any], [], 0⟩
  | .inr t => fun e s => e = .ret ∧ s = ⟨[.any, .any, .any, .any, .v (.one (.sc (.bool false))), .any, .any, .any, .any, .any, .any, .any, .any, .any, .any, .any, .any, .any, .any, .any, .any, .any, .any, .any, .any, .any], [], 0⟩
theorem halterlaw20_ints.l0_ok (a0 : (List Int)) (a1 : (List Int)) : ∀ (n : Nat) (x2 : Int) (r : (Unit) ⊕ (Unit)), halterlaw20_ints.l0 a0 a1 n x2 = some r → TripN cfg (cpath (Tryd.f17.body.getD .skip) [1, 1, 0, 1, 0, 0]) n (halterlaw20_ints.l0_S a0 a1 x2) (halterlaw20_ints.l0_Q a0 a1 r)
  | 0, _, r, h => by cases h
  | n + 1, x2, r, h => by
    rw [halterlaw20_ints.l0] at h
    refine TripN.of_run cfg_ok (k := (.br (.dr [(0, ⟨none, .no⟩), (1, ⟨none, .no⟩), (2, ⟨none, .no⟩), (3, ⟨none, .no⟩), (4, ⟨none, .no⟩), (5, ⟨none, .no⟩), (6, ⟨none, .no⟩), (7, ⟨none, .no⟩), (8, ⟨none, .no⟩)] (.br (.adj [] (.adj [.keep [4], .drop 0] .nil)) (.adj [] (.adj [] (.adj [.keep [0, 1, 5], .drop 0] .nil))))) (.adj [.keep [], .drop 0] .nil))) (to_goal (q := (True) ∧ (True) ∧ (((decide (x2 < (((List.length a0) : Nat) : Int))) = true → (0 ≤ x2 ∧ x2 < (((List.length a0) : Nat) : Int)) ∧ (True) ∧ (0 ≤ x2 ∧ x2 < (((List.length a1) : Nat) : Int)) ∧ (True) ∧ (True) ∧ ((((List.getD a0 (Int.toNat x2) (0 : Int)) != (List.getD a1 (Int.toNat x2) (0 : Int))) = true → (True ∧ (((True) ∧ (True) ∧ True) ∧ halterlaw20_ints.l0_Q a0 a1 r .ret ⟨[.any, .any, .any, .any, .v (.one (.sc (.bool false))), .any, .any, .any, .any, .any, .any, .any, .any, .any, .any, .any, .any, .any, .any, .any, .any, .any, .any, .any, .any, .any], [], 0⟩))) ∧ (((List.getD a0 (Int.toNat x2) (0 : Int)) != (List.getD a1 (Int.toNat x2) (0 : Int))) = false → (True ∧ (True ∧ (True) ∧ (((True) ∧ (True) ∧ True) ∧ TripN cfg (cpath (Tryd.f17.body.getD .skip) [1, 1, 0, 1, 0, 0]) n (halterlaw20_ints.l0_S a0 a1 (IntKind.wrap .i64 (x2 + (1 : Int)))) (halterlaw20_ints.l0_Q a0 a1 r))))))) ∧ ((decide (x2 < (((List.length a0) : Nat) : Int))) = false → (((True) ∧ (True) ∧ True) ∧ halterlaw20_ints.l0_Q a0 a1 r (.exit 0) ⟨[.any, .any, .any, .any, .any, .any, .any, .any, .any, .any, .any, .any, .any, .any, .any, .any, .any, .any, .any, .any, .any, .any, .any, .any, .any, .any], [], 0⟩)))) (by kernel_rfl) ?_)
    refine ⟨trivial, ?_⟩
    refine ⟨trivial, ?_⟩
    refine ⟨fun b8 => ?_, fun b8 => ?_⟩
    · rw [if_pos (of_decide_eq_true b8)] at h
      obtain ⟨g9, h⟩ := of_guard h
      obtain ⟨g10, h⟩ := of_guard h
      refine ⟨g9, trivial, g10, trivial, trivial, ?_⟩
      refine ⟨fun b11 => ?_, fun b11 => ?_⟩
      · rw [if_pos (bne_t b11)] at h
        refine ⟨trivial, ?_⟩
        obtain rfl := Option.some.inj h
        exact ⟨⟨trivial, trivial, trivial⟩, rfl, rfl⟩
      · rw [if_neg (not_not_intro (bne_f b11))] at h
        refine ⟨trivial, ?_⟩
        refine ⟨trivial, ?_⟩
        refine ⟨trivial, ?_⟩
        exact ⟨⟨trivial, trivial, trivial⟩, halterlaw20_ints.l0_ok a0 a1 n (IntKind.wrap .i64 (x2 + (1 : Int))) r h⟩
    · rw [if_neg (of_decide_eq_false b8)] at h
      obtain rfl := Option.some.inj h
      exact ⟨⟨trivial, trivial, trivial⟩, rfl, rfl⟩
def halterlaw20_ints.f (a0 : (List Int)) (a1 : (List Int)) : Option Bool :=
  if ¬ (((List.length a0) : Nat) : Int) = (((List.length a1) : Nat) : Int) then
    some false
  else
    (halterlaw20_ints.l0 a0 a1 FUEL (0 : Int)).bind fun t7 =>
    match t7 with
    | .inl t12 =>
      some true
    | .inr t13 =>
      some false
def halterlaw20_ints.R (r : Bool) : Tm := .v (.one (.sc (.bool r)))
theorem halterlaw20_ints.fun_ {a0 : (List Int)} {a1 : (List Int)} {r : Bool} (h : halterlaw20_ints.f a0 a1 = some r) : Fun cfg 17 [.one (.fs (.int .i64) a0 false), .one (.fs (.int .i64) a1 false)] [] (halterlaw20_ints.R r) [] := by
  unfold halterlaw20_ints.f at h
  refine fun_of_run cfg_ok (f := 17) (fn := Tryd.f17) Tryd.func17 rfl (by kernel_rfl) (rs := [.tmp 4]) rfl (nt := 26) rfl (l := fin) (k := (.br (.adj [] (.adj [] (.adj [] .nil))) (.adj [] (.adj [] (.adj [.keep [0, 1, 5]] (.alt (.sub (Unit) (fun _ => (.exit 0)) (fun t12 => ⟨[.any, .any, .any, .any, .any, .any, .any, .any, .any, .any, .any, .any, .any, .any, .any, .any, .any, .any, .any, .any, .any, .any, .any, .any, .any, .any], [], 0⟩) (fun t12 => (.adj [] (.adj [] (.adj [] .nil))))) (.sub (Unit) (fun _ => .ret) (fun t13 => ⟨[.any, .any, .any, .any, .v (.one (.sc (.bool false))), .any, .any, .any, .any, .any, .any, .any, .any, .any, .any, .any, .any, .any, .any, .any, .any, .any, .any, .any, .any, .any], [], 0⟩) (fun t13 => (.adj [] .nil))))))))) (to_goal (q := (True) ∧ (True) ∧ (True) ∧ ((((((List.length a0) : Nat) : Int) != (((List.length a1) : Nat) : Int)) = true → (True ∧ (True ∧ ((True) ∧ (True) ∧ (.v (.one (.sc (.bool false))) : Tm) = halterlaw20_ints.R r ∧ ([] : List Box) = [])))) ∧ (((((List.length a0) : Nat) : Int) != (((List.length a1) : Nat) : Int)) = false → (True ∧ (True ∧ (((True) ∧ True) ∧ ((∃ t12 : Unit, Trip cfg (.loop (cpath (Tryd.f17.body.getD .skip) [1, 1, 0, 1, 0, 0])) ⟨[.v (.one (.fs (.int .i64) a0 false)), .v (.one (.fs (.int .i64) a1 false)), .any, .any, .any, .v (.one (.sc (.int .i64 (0 : Int)))), .any, .any, .any, .any, .any, .any, .any, .any, .any, .any, .any, .any, .any, .any, .any, .any, .any, .any, .any, .any], [], 0⟩ (fun e s => e = (.exit 0) ∧ s = ⟨[.any, .any, .any, .any, .any, .any, .any, .any, .any, .any, .any, .any, .any, .any, .any, .any, .any, .any, .any, .any, .any, .any, .any, .any, .any, .any], [], 0⟩) ∧ (True ∧ (True ∧ ((True) ∧ (True) ∧ (.v (.one (.sc (.bool true))) : Tm) = halterlaw20_ints.R r ∧ ([] : List Box) = [])))) ∨ (∃ t13 : Unit, Trip cfg (.loop (cpath (Tryd.f17.body.getD .skip) [1, 1, 0, 1, 0, 0])) ⟨[.v (.one (.fs (.int .i64) a0 false)), .v (.one (.fs (.int .i64) a1 false)), .any, .any, .any, .v (.one (.sc (.int .i64 (0 : Int)))), .any, .any, .any, .any, .any, .any, .any, .any, .any, .any, .any, .any, .any, .any, .any, .any, .any, .any, .any, .any], [], 0⟩ (fun e s => e = .ret ∧ s = ⟨[.any, .any, .any, .any, .v (.one (.sc (.bool false))), .any, .any, .any, .any, .any, .any, .any, .any, .any, .any, .any, .any, .any, .any, .any, .any, .any, .any, .any, .any, .any], [], 0⟩) ∧ ((True) ∧ (True) ∧ (.v (.one (.sc (.bool false))) : Tm) = halterlaw20_ints.R r ∧ ([] : List Box) = []))))))))) (by kernel_rfl) ?_)
  refine ⟨trivial, ?_⟩
  refine ⟨trivial, ?_⟩
  refine ⟨trivial, ?_⟩
  refine ⟨fun b1 => ?_, fun b1 => ?_⟩
  · rw [if_pos (bne_t b1)] at h
    refine ⟨trivial, ?_⟩
    refine ⟨trivial, ?_⟩
    obtain rfl := Option.some.inj h
    exact ⟨trivial, trivial, rfl, rfl⟩
  · rw [if_neg (not_not_intro (bne_f b1))] at h
    refine ⟨trivial, ?_⟩
    refine ⟨trivial, ?_⟩
    obtain ⟨t7, ht7, h⟩ := of_bind h
    refine ⟨⟨trivial, trivial⟩, ?_⟩
    rcases t7 with t12 | t13
    · dsimp only at h
      left
      refine ⟨t12, Trip.loop FUEL (halterlaw20_ints.l0_ok a0 a1 FUEL (0 : Int) (.inl t12) ht7), ?_⟩
      refine ⟨trivial, ?_⟩
      refine ⟨trivial, ?_⟩
      obtain rfl := Option.some.inj h
      exact ⟨trivial, trivial, rfl, rfl⟩
    · dsimp only at h
      right
      refine ⟨t13, Trip.loop FUEL (halterlaw20_ints.l0_ok a0 a1 FUEL (0 : Int) (.inr t13) ht7), ?_⟩
      obtain rfl := Option.some.inj h
      exact ⟨trivial, trivial, rfl, rfl⟩
/-! halter/fds.Free -/
def fds_Free.f (a0 : (List Int)) : Option Int :=
  (fds_Check.f a0).bind fun t1 =>
  if ¬ (t1 = none) then
    some (0 : Int)
  else
    (fds_Files.f a0).bind fun t3 =>
    some (IntKind.wrap .i64 ((8 : Int) - (((List.length t3) : Nat) : Int)))
def fds_Free.R (r : Int) : Tm := .v (.one (.sc (.int .i64 r)))
theorem fds_Free.fun_ {a0 : (List Int)} {r : Int} (h : fds_Free.f a0 = some r) : Fun cfg 19 [.agg [.row 8 (.int .i64) a0]] [] (fds_Free.R r) [] := by
  unfold fds_Free.f at h
  refine fun_of_run cfg_ok (f := 19) (fn := Tryd.f19) Tryd.func19 rfl (by kernel_rfl) (rs := [.tmp 2]) rfl (nt := 10) rfl (l := fin) (k := (.call true [] ((Option Int)) (fun t1 => fds_Check.R t1) (fun t1 => (.br (.adj [] (.adj [] (.adj [.drop 0] .nil))) (.call true [] ((List Int)) (fun t3 => fds_Files.R t3) (fun t3 => (.adj [] (.adj [.drop 0] .nil)))))))) (to_goal (q := (True) ∧ (∃ t1 : (Option Int), (Fun cfg 20 [.agg [.row 8 (.int .i64) a0]] [] (fds_Check.R t1) [] ∧ True) ∧ (True) ∧ (((!(Option.isNone t1)) = true → (True ∧ (True ∧ ((True) ∧ ((True) ∧ True) ∧ (.v (.one (.sc (.int .i64 (0 : Int)))) : Tm) = fds_Free.R r ∧ ([] : List Box) = [])))) ∧ ((!(Option.isNone t1)) = false → (True) ∧ (∃ t3 : (List Int), (Fun cfg 18 [.agg [.row 8 (.int .i64) a0]] [] (fds_Files.R t3) [] ∧ True) ∧ (True) ∧ (True) ∧ (True ∧ ((True) ∧ ((True) ∧ True) ∧ (.v (.one (.sc (.int .i64 (IntKind.wrap .i64 ((8 : Int) - (((List.length t3) : Nat) : Int)))))) : Tm) = fds_Free.R r ∧ ([] : List Box) = []))))))) (by kernel_rfl) ?_)
  refine ⟨trivial, ?_⟩
  obtain ⟨t1, ht1, h⟩ := of_bind h
  refine ⟨t1, ⟨fds_Check.fun_ ht1, trivial⟩, ?_⟩
  refine ⟨trivial, ?_⟩
  refine ⟨fun b2 => ?_, fun b2 => ?_⟩
  · rw [if_pos (none_f (not_t b2))] at h
    refine ⟨trivial, ?_⟩
    refine ⟨trivial, ?_⟩
    obtain rfl := Option.some.inj h
    exact ⟨trivial, ⟨trivial, trivial⟩, rfl, rfl⟩
  · rw [if_neg (not_not_intro (none_t (not_f b2)))] at h
    refine ⟨trivial, ?_⟩
    obtain ⟨t3, ht3, h⟩ := of_bind h
    refine ⟨t3, ⟨fds_Files.fun_ ht3, trivial⟩, ?_⟩
    refine ⟨trivial, ?_⟩
    refine ⟨trivial, ?_⟩
    refine ⟨trivial, ?_⟩
    obtain rfl := Option.some.inj h
    exact ⟨trivial, ⟨trivial, trivial⟩, rfl, rfl⟩
/-! halter/halterlaw20.sure -/
def halterlaw20_sure.f : Option Bool :=
  (fds_Put.f (List.replicate 8 (0 : Int)) (5 : Int)).bind fun t1 =>
  (fds_Dup.f t1.2.1 t1.1).bind fun t2 =>
  (fds_At.f t2.2.1 t2.1).bind fun t3 =>
  (fds_Drop.f t2.2.1 (0 : Int)).bind fun t4 =>
  (fds_At.f t4.2.1 (0 : Int)).bind fun t5 =>
  if t1.2.2 = none then
    if t2.2.2 = none then
      if t3.2 = none then
        if t4.2.2 = none then
          if t1.1 = (0 : Int) then
            if t2.1 = (1 : Int) then
              if t3.1 = (5 : Int) then
                (num.f t5.2).bind fun t13 =>
                if t13 = (9 : Int) then
                  (fds_Free.f t4.2.1).bind fun t15 =>
                  if t15 = (7 : Int) then
                    (fds_Files.f t2.2.1).bind fun t17 =>
                    (halterlaw20_ints.f t17 [(5 : Int), (5 : Int)]).bind fun t18 =>
                    some t18
                  else
                    some false
                else
                  some false
              else
                some false
            else
              some false
          else
            some false
        else
          some false
      else
        some false
    else
      some false
  else
    some false
def halterlaw20_sure.R (r : Bool) : Tm := .v (.one (.sc (.bool r)))
theorem halterlaw20_sure.fun_ {r : Bool} (h : halterlaw20_sure.f = some r) : Fun cfg 21 [] [] (halterlaw20_sure.R r) [] := by
  unfold halterlaw20_sure.f at h
  refine fun_of_run cfg_ok (f := 21) (fn := Tryd.f21) Tryd.func21 rfl (by kernel_rfl) (rs := [.tmp 0]) rfl (nt := 86) rfl (l := fin) (k := (.call true [] (Int × (List Int) × (Option Int)) (fun t1 => fds_Put.R t1) (fun t1 => (.call true [] (Int × (List Int) × (Option Int)) (fun t2 => fds_Dup.R t2) (fun t2 => (.call true [] (Int × (Option Int)) (fun t3 => fds_At.R t3) (fun t3 => (.call true [] (Int × (List Int) × (Option Int)) (fun t4 => fds_Drop.R t4) (fun t4 => (.call true [] (Int × (Option Int)) (fun t5 => fds_At.R t5) (fun t5 => (.br (.one true (.one true (.br (.one true (.one true (.br (.one true (.one true (.br (.one true (.one true (.br (.one true (.one true (.br (.one true (.one true (.br (.one true (.call true [] (Int) (fun t13 => num.R t13) (fun t13 => (.one true (.one true (.br (.one true (.call true [] (Int) (fun t15 => fds_Free.R t15) (fun t15 => (.one true (.one true (.br (.one true (.call true [] ((List Int)) (fun t17 => fds_Files.R t17) (fun t17 => (.one true (.one true (.call true [] (Bool) (fun t18 => halterlaw20_ints.R t18) (fun t18 => (.one true (.adj [] (.adj [.drop 0] .nil)))))))))) (.one false (.one false (.one false (.one false (.adj [] (.adj [.drop 0] .nil)))))))))))) (.one false (.one false (.one false (.one false (.one false (.one false (.one false (.one false (.adj [] (.adj [.drop 0] .nil)))))))))))))))) (.one false (.one false (.one false (.one false (.one false (.one false (.one false (.one false (.one false (.one false (.one false (.one false (.adj [] (.adj [.drop 0] .nil))))))))))))))))) (.one false (.one false (.one false (.one false (.one false (.one false (.one false (.one false (.one false (.one false (.one false (.one false (.one false (.one false (.one false (.adj [] (.adj [.drop 0] .nil)))))))))))))))))))) (.one false (.one false (.one false (.one false (.one false (.one false (.one false (.one false (.one false (.one false (.one false (.one false (.one false (.one false (.one false (.one false (.one false (.one false (.adj [] (.adj [.drop 0] .nil))))))))))))))))))))))) (.one false (.one false (.one false (.one false (.one false (.one false (.one false (.one false (.one false (.one false (.one false (.one false (.one false (.one false (.one false (.one false (.one false (.one false (.one false (.one false (.one false (.adj [] (.adj [.drop 0] .nil)))))))))))))))))))))))))) (.one false (.one false (.one false (.one false (.one false (.one false (.one false (.one false (.one false (.one false (.one false (.one false (.one false (.one false (.one false (.one false (.one false (.one false (.one false (.one false (.one false (.one false (.one false (.one false (.adj [] (.adj [.drop 0] .nil))))))))))))))))))))))))))))) (.one false (.one false (.one false (.one false (.one false (.one false (.one false (.one false (.one false (.one false (.one false (.one false (.one false (.one false (.one false (.one false (.one false (.one false (.one false (.one false (.one false (.one false (.one false (.one false (.one false (.one false (.one false (.adj [] (.adj [.drop 0] .nil)))))))))))))))))))))))))))))))) (.one false (.one false (.one false (.one false (.one false (.one false (.one false (.one false (.one false (.one false (.one false (.one false (.one false (.one false (.one false (.one false (.one false (.one false (.one false (.one false (.one false (.one false (.one false (.one false (.one false (.one false (.one false (.one false (.one false (.one false (.adj [] (.adj [.drop 0] .nil)))))))))))))))))))))))))))))))))))))))))))) (to_goal (q := (∃ t1 : Int × (List Int) × (Option Int), (Fun cfg 6 [.agg [.row 8 (.int .i64) (List.replicate 8 (0 : Int))], .one (.sc (.int .i64 (5 : Int)))] [] (fds_Put.R t1) [] ∧ True) ∧ (True) ∧ (True) ∧ (∃ t2 : Int × (List Int) × (Option Int), (Fun cfg 12 [.agg [.row 8 (.int .i64) t1.2.1], .one (.sc (.int .i64 t1.1))] [] (fds_Dup.R t2) [] ∧ True) ∧ (True) ∧ (True) ∧ (∃ t3 : Int × (Option Int), (Fun cfg 8 [.agg [.row 8 (.int .i64) t2.2.1], .one (.sc (.int .i64 t2.1))] [] (fds_At.R t3) [] ∧ True) ∧ (True) ∧ (∃ t4 : Int × (List Int) × (Option Int), (Fun cfg 10 [.agg [.row 8 (.int .i64) t2.2.1], .one (.sc (.int .i64 (0 : Int)))] [] (fds_Drop.R t4) [] ∧ True) ∧ (True) ∧ (True) ∧ (∃ t5 : Int × (Option Int), (Fun cfg 8 [.agg [.row 8 (.int .i64) t4.2.1], .one (.sc (.int .i64 (0 : Int)))] [] (fds_At.R t5) [] ∧ True) ∧ (True) ∧ (((Option.isNone t1.2.2) = true → ((Option.isNone t1.2.2) = true ∧ (True) ∧ ((Option.isNone t1.2.2) = true ∧ (((Option.isNone t2.2.2) = true → ((Option.isNone t2.2.2) = true ∧ (True) ∧ ((Option.isNone t2.2.2) = true ∧ (((Option.isNone t3.2) = true → ((Option.isNone t3.2) = true ∧ (True) ∧ ((Option.isNone t3.2) = true ∧ (((Option.isNone t4.2.2) = true → ((Option.isNone t4.2.2) = true ∧ (True) ∧ ((Option.isNone t4.2.2) = true ∧ (((t1.1 == (0 : Int)) = true → ((t1.1 == (0 : Int)) = true ∧ (True) ∧ ((t1.1 == (0 : Int)) = true ∧ (((t2.1 == (1 : Int)) = true → ((t2.1 == (1 : Int)) = true ∧ (True) ∧ ((t2.1 == (1 : Int)) = true ∧ (((t3.1 == (5 : Int)) = true → ((t3.1 == (5 : Int)) = true ∧ (∃ t13 : Int, (Fun cfg 16 [.one (.err t5.2)] [] (num.R t13) [] ∧ True) ∧ ((t3.1 == (5 : Int)) = true ∧ (True) ∧ ((t3.1 == (5 : Int)) = true ∧ (((t13 == (9 : Int)) = true → (True) ∧ ((t13 == (9 : Int)) = true ∧ (∃ t15 : Int, (Fun cfg 19 [.agg [.row 8 (.int .i64) t4.2.1]] [] (fds_Free.R t15) [] ∧ True) ∧ ((t13 == (9 : Int)) = true ∧ (True) ∧ ((t13 == (9 : Int)) = true ∧ (((t15 == (7 : Int)) = true → (True) ∧ ((t15 == (7 : Int)) = true ∧ (∃ t17 : (List Int), (Fun cfg 18 [.agg [.row 8 (.int .i64) t2.2.1]] [] (fds_Files.R t17) [] ∧ True) ∧ ((t15 == (7 : Int)) = true ∧ ((t15 == (7 : Int)) = true ∧ (∃ t18 : Bool, ((0 = 0 ∧ 2 = 2) ∧ Fun cfg 17 [.one (.fs (.int .i64) t17 false), .one (.fs (.int .i64) [(5 : Int), (5 : Int)] false)] [] (halterlaw20_ints.R t18) [] ∧ True) ∧ ((t15 == (7 : Int)) = true ∧ (True ∧ ((True) ∧ ((True) ∧ True) ∧ (.v (.one (.sc (.bool t18))) : Tm) = halterlaw20_sure.R r ∧ ([] : List Box) = []))))))))) ∧ ((t15 == (7 : Int)) = false → ((t15 == (7 : Int)) = false ∧ ((t15 == (7 : Int)) = false ∧ ((t15 == (7 : Int)) = false ∧ ((t15 == (7 : Int)) = false ∧ (True ∧ ((True) ∧ ((True) ∧ True) ∧ (.v (.one (.sc (.bool false))) : Tm) = halterlaw20_sure.R r ∧ ([] : List Box) = []))))))))))))) ∧ ((t13 == (9 : Int)) = false → ((t13 == (9 : Int)) = false ∧ ((t13 == (9 : Int)) = false ∧ ((t13 == (9 : Int)) = false ∧ (false = false ∧ (false = false ∧ (false = false ∧ (false = false ∧ (false = false ∧ (True ∧ ((True) ∧ ((True) ∧ True) ∧ (.v (.one (.sc (.bool false))) : Tm) = halterlaw20_sure.R r ∧ ([] : List Box) = []))))))))))))))))) ∧ ((t3.1 == (5 : Int)) = false → ((t3.1 == (5 : Int)) = false ∧ ((t3.1 == (5 : Int)) = false ∧ ((t3.1 == (5 : Int)) = false ∧ (false = false ∧ (false = false ∧ (false = false ∧ (false = false ∧ (false = false ∧ (false = false ∧ (false = false ∧ (false = false ∧ (false = false ∧ (True ∧ ((True) ∧ ((True) ∧ True) ∧ (.v (.one (.sc (.bool false))) : Tm) = halterlaw20_sure.R r ∧ ([] : List Box) = []))))))))))))))))))) ∧ ((t2.1 == (1 : Int)) = false → ((t2.1 == (1 : Int)) = false ∧ ((t2.1 == (1 : Int)) = false ∧ (false = false ∧ (false = false ∧ (false = false ∧ (false = false ∧ (false = false ∧ (false = false ∧ (false = false ∧ (false = false ∧ (false = false ∧ (false = false ∧ (false = false ∧ (false = false ∧ (false = false ∧ (True ∧ ((True) ∧ ((True) ∧ True) ∧ (.v (.one (.sc (.bool false))) : Tm) = halterlaw20_sure.R r ∧ ([] : List Box) = [])))))))))))))))))))))) ∧ ((t1.1 == (0 : Int)) = false → ((t1.1 == (0 : Int)) = false ∧ ((t1.1 == (0 : Int)) = false ∧ (false = false ∧ (false = false ∧ (false = false ∧ (false = false ∧ (false = false ∧ (false = false ∧ (false = false ∧ (false = false ∧ (false = false ∧ (false = false ∧ (false = false ∧ (false = false ∧ (false = false ∧ (false = false ∧ (false = false ∧ (false = false ∧ (True ∧ ((True) ∧ ((True) ∧ True) ∧ (.v (.one (.sc (.bool false))) : Tm) = halterlaw20_sure.R r ∧ ([] : List Box) = []))))))))))))))))))))))))) ∧ ((Option.isNone t4.2.2) = false → ((Option.isNone t4.2.2) = false ∧ ((Option.isNone t4.2.2) = false ∧ (false = false ∧ (false = false ∧ (false = false ∧ (false = false ∧ (false = false ∧ (false = false ∧ (false = false ∧ (false = false ∧ (false = false ∧ (false = false ∧ (false = false ∧ (false = false ∧ (false = false ∧ (false = false ∧ (false = false ∧ (false = false ∧ (false = false ∧ (false = false ∧ (false = false ∧ (True ∧ ((True) ∧ ((True) ∧ True) ∧ (.v (.one (.sc (.bool false))) : Tm) = halterlaw20_sure.R r ∧ ([] : List Box) = [])))))))))))))))))))))))))))) ∧ ((Option.isNone t3.2) = false → ((Option.isNone t3.2) = false ∧ ((Option.isNone t3.2) = false ∧ (false = false ∧ (false = false ∧ (false = false ∧ (false = false ∧ (false = false ∧ (false = false ∧ (false = false ∧ (false = false ∧ (false = false ∧ (false = false ∧ (false = false ∧ (false = false ∧ (false = false ∧ (false = false ∧ (false = false ∧ (false = false ∧ (false = false ∧ (false = false ∧ (false = false ∧ (false = false ∧ (false = false ∧ (false = false ∧ (True ∧ ((True) ∧ ((True) ∧ True) ∧ (.v (.one (.sc (.bool false))) : Tm) = halterlaw20_sure.R r ∧ ([] : List Box) = []))))))))))))))))))))))))))))))) ∧ ((Option.isNone t2.2.2) = false → ((Option.isNone t2.2.2) = false ∧ ((Option.isNone t2.2.2) = false ∧ (false = false ∧ (false = false ∧ (false = false ∧ (false = false ∧ (false = false ∧ (false = false ∧ (false = false ∧ (false = false ∧ (false = false ∧ (false = false ∧ (false = false ∧ (false = false ∧ (false = false ∧ (false = false ∧ (false = false ∧ (false = false ∧ (false = false ∧ (false = false ∧ (false = false ∧ (false = false ∧ (false = false ∧ (false = false ∧ (false = false ∧ (false = false ∧ (false = false ∧ (True ∧ ((True) ∧ ((True) ∧ True) ∧ (.v (.one (.sc (.bool false))) : Tm) = halterlaw20_sure.R r ∧ ([] : List Box) = [])))))))))))))))))))))))))))))))))) ∧ ((Option.isNone t1.2.2) = false → ((Option.isNone t1.2.2) = false ∧ ((Option.isNone t1.2.2) = false ∧ (false = false ∧ (false = false ∧ (false = false ∧ (false = false ∧ (false = false ∧ (false = false ∧ (false = false ∧ (false = false ∧ (false = false ∧ (false = false ∧ (false = false ∧ (false = false ∧ (false = false ∧ (false = false ∧ (false = false ∧ (false = false ∧ (false = false ∧ (false = false ∧ (false = false ∧ (false = false ∧ (false = false ∧ (false = false ∧ (false = false ∧ (false = false ∧ (false = false ∧ (false = false ∧ (false = false ∧ (false = false ∧ (True ∧ ((True) ∧ ((True) ∧ True) ∧ (.v (.one (.sc (.bool false))) : Tm) = halterlaw20_sure.R r ∧ ([] : List Box) = [])))))))))))))))))))))))))))))))))))))))) (by kernel_rfl) ?_)
  obtain ⟨t1, ht1, h⟩ := of_bind h
  refine ⟨t1, ⟨fds_Put.fun_ ht1, trivial⟩, ?_⟩
  refine ⟨trivial, ?_⟩
  refine ⟨trivial, ?_⟩
  obtain ⟨t2, ht2, h⟩ := of_bind h
  refine ⟨t2, ⟨fds_Dup.fun_ ht2, trivial⟩, ?_⟩
  refine ⟨trivial, ?_⟩
  refine ⟨trivial, ?_⟩
  obtain ⟨t3, ht3, h⟩ := of_bind h
  refine ⟨t3, ⟨fds_At.fun_ ht3, trivial⟩, ?_⟩
  refine ⟨trivial, ?_⟩
  obtain ⟨t4, ht4, h⟩ := of_bind h
  refine ⟨t4, ⟨fds_Drop.fun_ ht4, trivial⟩, ?_⟩
  refine ⟨trivial, ?_⟩
  refine ⟨trivial, ?_⟩
  obtain ⟨t5, ht5, h⟩ := of_bind h
  refine ⟨t5, ⟨fds_At.fun_ ht5, trivial⟩, ?_⟩
  refine ⟨trivial, ?_⟩
  refine ⟨fun b6 => ?_, fun b6 => ?_⟩
  · rw [if_pos (none_t b6)] at h
    refine ⟨b6, ?_⟩
    refine ⟨trivial, ?_⟩
    refine ⟨b6, ?_⟩
    refine ⟨fun b7 => ?_, fun b7 => ?_⟩
    · rw [if_pos (none_t b7)] at h
      refine ⟨b7, ?_⟩
      refine ⟨trivial, ?_⟩
      refine ⟨b7, ?_⟩
      refine ⟨fun b8 => ?_, fun b8 => ?_⟩
      · rw [if_pos (none_t b8)] at h
        refine ⟨b8, ?_⟩
        refine ⟨trivial, ?_⟩
        refine ⟨b8, ?_⟩
        refine ⟨fun b9 => ?_, fun b9 => ?_⟩
        · rw [if_pos (none_t b9)] at h
          refine ⟨b9, ?_⟩
          refine ⟨trivial, ?_⟩
          refine ⟨b9, ?_⟩
          refine ⟨fun b10 => ?_, fun b10 => ?_⟩
          · rw [if_pos (beq_t b10)] at h
            refine ⟨b10, ?_⟩
            refine ⟨trivial, ?_⟩
            refine ⟨b10, ?_⟩
            refine ⟨fun b11 => ?_, fun b11 => ?_⟩
            · rw [if_pos (beq_t b11)] at h
              refine ⟨b11, ?_⟩
              refine ⟨trivial, ?_⟩
              refine ⟨b11, ?_⟩
              refine ⟨fun b12 => ?_, fun b12 => ?_⟩
              · rw [if_pos (beq_t b12)] at h
                refine ⟨b12, ?_⟩
                obtain ⟨t13, ht13, h⟩ := of_bind h
                refine ⟨t13, ⟨num.fun_ ht13, trivial⟩, ?_⟩
                refine ⟨b12, ?_⟩
                refine ⟨trivial, ?_⟩
                refine ⟨b12, ?_⟩
                refine ⟨fun b14 => ?_, fun b14 => ?_⟩
                · rw [if_pos (beq_t b14)] at h
                  refine ⟨trivial, ?_⟩
                  refine ⟨b14, ?_⟩
                  obtain ⟨t15, ht15, h⟩ := of_bind h
                  refine ⟨t15, ⟨fds_Free.fun_ ht15, trivial⟩, ?_⟩
                  refine ⟨b14, ?_⟩
                  refine ⟨trivial, ?_⟩
                  refine ⟨b14, ?_⟩
                  refine ⟨fun b16 => ?_, fun b16 => ?_⟩
                  · rw [if_pos (beq_t b16)] at h
                    refine ⟨trivial, ?_⟩
                    refine ⟨b16, ?_⟩
                    obtain ⟨t17, ht17, h⟩ := of_bind h
                    refine ⟨t17, ⟨fds_Files.fun_ ht17, trivial⟩, ?_⟩
                    refine ⟨b16, ?_⟩
                    refine ⟨b16, ?_⟩
                    obtain ⟨t18, ht18, h⟩ := of_bind h
                    refine ⟨t18, ⟨⟨rfl, rfl⟩, halterlaw20_ints.fun_ ht18, trivial⟩, ?_⟩
                    refine ⟨b16, ?_⟩
                    refine ⟨trivial, ?_⟩
                    obtain rfl := Option.some.inj h
                    exact ⟨trivial, ⟨trivial, trivial⟩, rfl, rfl⟩
                  · rw [if_neg (beq_f b16)] at h
                    refine ⟨b16, ?_⟩
                    refine ⟨b16, ?_⟩
                    refine ⟨b16, ?_⟩
                    refine ⟨b16, ?_⟩
                    refine ⟨trivial, ?_⟩
                    obtain rfl := Option.some.inj h
                    exact ⟨trivial, ⟨trivial, trivial⟩, rfl, rfl⟩
                · rw [if_neg (beq_f b14)] at h
                  refine ⟨b14, ?_⟩
                  refine ⟨b14, ?_⟩
                  refine ⟨b14, ?_⟩
                  refine ⟨rfl, ?_⟩
                  refine ⟨rfl, ?_⟩
                  refine ⟨rfl, ?_⟩
                  refine ⟨rfl, ?_⟩
                  refine ⟨rfl, ?_⟩
                  refine ⟨trivial, ?_⟩
                  obtain rfl := Option.some.inj h
                  exact ⟨trivial, ⟨trivial, trivial⟩, rfl, rfl⟩
              · rw [if_neg (beq_f b12)] at h
                refine ⟨b12, ?_⟩
                refine ⟨b12, ?_⟩
                refine ⟨b12, ?_⟩
                refine ⟨rfl, ?_⟩
                refine ⟨rfl, ?_⟩
                refine ⟨rfl, ?_⟩
                refine ⟨rfl, ?_⟩
                refine ⟨rfl, ?_⟩
                refine ⟨rfl, ?_⟩
                refine ⟨rfl, ?_⟩
                refine ⟨rfl, ?_⟩
                refine ⟨rfl, ?_⟩
                refine ⟨trivial, ?_⟩
                obtain rfl := Option.some.inj h
                exact ⟨trivial, ⟨trivial, trivial⟩, rfl, rfl⟩
            · rw [if_neg (beq_f b11)] at h
              refine ⟨b11, ?_⟩
              refine ⟨b11, ?_⟩
              refine ⟨rfl, ?_⟩
              refine ⟨rfl, ?_⟩
              refine ⟨rfl, ?_⟩
              refine ⟨rfl, ?_⟩
              refine ⟨rfl, ?_⟩
              refine ⟨rfl, ?_⟩
              refine ⟨rfl, ?_⟩
              refine ⟨rfl, ?_⟩
              refine ⟨rfl, ?_⟩
              refine ⟨rfl, ?_⟩
              refine ⟨rfl, ?_⟩
              refine ⟨rfl, ?_⟩
              refine ⟨rfl, ?_⟩
              refine ⟨trivial, ?_⟩
              obtain rfl := Option.some.inj h
              exact ⟨trivial, ⟨trivial, trivial⟩, rfl, rfl⟩
          · rw [if_neg (beq_f b10)] at h
            refine ⟨b10, ?_⟩
            refine ⟨b10, ?_⟩
            refine ⟨rfl, ?_⟩
            refine ⟨rfl, ?_⟩
            refine ⟨rfl, ?_⟩
            refine ⟨rfl, ?_⟩
            refine ⟨rfl, ?_⟩
            refine ⟨rfl, ?_⟩
            refine ⟨rfl, ?_⟩
            refine ⟨rfl, ?_⟩
            refine ⟨rfl, ?_⟩
            refine ⟨rfl, ?_⟩
            refine ⟨rfl, ?_⟩
            refine ⟨rfl, ?_⟩
            refine ⟨rfl, ?_⟩
            refine ⟨rfl, ?_⟩
            refine ⟨rfl, ?_⟩
            refine ⟨rfl, ?_⟩
            refine ⟨trivial, ?_⟩
            obtain rfl := Option.some.inj h
            exact ⟨trivial, ⟨trivial, trivial⟩, rfl, rfl⟩
        · rw [if_neg (none_f b9)] at h
          refine ⟨b9, ?_⟩
          refine ⟨b9, ?_⟩
          refine ⟨rfl, ?_⟩
          refine ⟨rfl, ?_⟩
          refine ⟨rfl, ?_⟩
          refine ⟨rfl, ?_⟩
          refine ⟨rfl, ?_⟩
          refine ⟨rfl, ?_⟩
          refine ⟨rfl, ?_⟩
          refine ⟨rfl, ?_⟩
          refine ⟨rfl, ?_⟩
          refine ⟨rfl, ?_⟩
          refine ⟨rfl, ?_⟩
          refine ⟨rfl, ?_⟩
          refine ⟨rfl, ?_⟩
          refine ⟨rfl, ?_⟩
          refine ⟨rfl, ?_⟩
          refine ⟨rfl, ?_⟩
          refine ⟨rfl, ?_⟩
          refine ⟨rfl, ?_⟩
          refine ⟨rfl, ?_⟩
          refine ⟨trivial, ?_⟩
          obtain rfl := Option.some.inj h
          exact ⟨trivial, ⟨trivial, trivial⟩, rfl, rfl⟩
      · rw [if_neg (none_f b8)] at h
        refine ⟨b8, ?_⟩
        refine ⟨b8, ?_⟩
        refine ⟨rfl, ?_⟩
        refine ⟨rfl, ?_⟩
        refine ⟨rfl, ?_⟩
        refine ⟨rfl, ?_⟩
        refine ⟨rfl, ?_⟩
        refine ⟨rfl, ?_⟩
        refine ⟨rfl, ?_⟩
        refine ⟨rfl, ?_⟩
        refine ⟨rfl, ?_⟩
        refine ⟨rfl, ?_⟩
        refine ⟨rfl, ?_⟩
        refine ⟨rfl, ?_⟩
        refine ⟨rfl, ?_⟩
        refine ⟨rfl, ?_⟩
        refine ⟨rfl, ?_⟩
        refine ⟨rfl, ?_⟩
        refine ⟨rfl, ?_⟩
        refine ⟨rfl, ?_⟩
        refine ⟨rfl, ?_⟩
        refine ⟨rfl, ?_⟩
        refine ⟨rfl, ?_⟩
        refine ⟨rfl, ?_⟩
        refine ⟨trivial, ?_⟩
        obtain rfl := Option.some.inj h
        exact ⟨trivial, ⟨trivial, trivial⟩, rfl, rfl⟩
    · rw [if_neg (none_f b7)] at h
      refine ⟨b7, ?_⟩
      refine ⟨b7, ?_⟩
      refine ⟨rfl, ?_⟩
      refine ⟨rfl, ?_⟩
      refine ⟨rfl, ?_⟩
      refine ⟨rfl, ?_⟩
      refine ⟨rfl, ?_⟩
      refine ⟨rfl, ?_⟩
      refine ⟨rfl, ?_⟩
      refine ⟨rfl, ?_⟩
      refine ⟨rfl, ?_⟩
      refine ⟨rfl, ?_⟩
      refine ⟨rfl, ?_⟩
      refine ⟨rfl, ?_⟩
      refine ⟨rfl, ?_⟩
      refine ⟨rfl, ?_⟩
      refine ⟨rfl, ?_⟩
      refine ⟨rfl, ?_⟩
      refine ⟨rfl, ?_⟩
      refine ⟨rfl, ?_⟩
      refine ⟨rfl, ?_⟩
      refine ⟨rfl, ?_⟩
      refine ⟨rfl, ?_⟩
      refine ⟨rfl, ?_⟩
      refine ⟨rfl, ?_⟩
      refine ⟨rfl, ?_⟩
      refine ⟨rfl, ?_⟩
      refine ⟨trivial, ?_⟩
      obtain rfl := Option.some.inj h
      exact ⟨trivial, ⟨trivial, trivial⟩, rfl, rfl⟩
  · rw [if_neg (none_f b6)] at h
    refine ⟨b6, ?_⟩
    refine ⟨b6, ?_⟩
    refine ⟨rfl, ?_⟩
    refine ⟨rfl, ?_⟩
    refine ⟨rfl, ?_⟩
    refine ⟨rfl, ?_⟩
    refine ⟨rfl, ?_⟩
    refine ⟨rfl, ?_⟩
    refine ⟨rfl, ?_⟩
    refine ⟨rfl, ?_⟩
    refine ⟨rfl, ?_⟩
    refine ⟨rfl, ?_⟩
    refine ⟨rfl, ?_⟩
    refine ⟨rfl, ?_⟩
    refine ⟨rfl, ?_⟩
    refine ⟨rfl, ?_⟩
    refine ⟨rfl, ?_⟩
    refine ⟨rfl, ?_⟩
    refine ⟨rfl, ?_⟩
    refine ⟨rfl, ?_⟩
    refine ⟨rfl, ?_⟩
    refine ⟨rfl, ?_⟩
    refine ⟨rfl, ?_⟩
    refine ⟨rfl, ?_⟩
    refine ⟨rfl, ?_⟩
    refine ⟨rfl, ?_⟩
    refine ⟨rfl, ?_⟩
    refine ⟨rfl, ?_⟩
    refine ⟨rfl, ?_⟩
    refine ⟨rfl, ?_⟩
    refine ⟨trivial, ?_⟩
    obtain rfl := Option.some.inj h
    exact ⟨trivial, ⟨trivial, trivial⟩, rfl, rfl⟩
/-! halter/halterlaw20.FdsSteps -/
def halterlaw20_FdsSteps.f (a0 : (List Int)) (a1 : Int) (a2 : Int) : Option Bool :=
  (fds_Put.f a0 a1).bind fun t1 =>
  (halterref20_Put.f a0 a1).bind fun t2 =>
  (fds_At.f a0 a2).bind fun t3 =>
  (halterref20_At.f a0 a2).bind fun t4 =>
  (fds_Drop.f a0 a2).bind fun t5 =>
  (halterref20_Drop.f a0 a2).bind fun t6 =>
  (fds_Dup.f a0 a2).bind fun t7 =>
  (halterref20_Dup.f a0 a2).bind fun t8 =>
  (halterref20_May.f a0).bind fun t9 =>
  if t9 = true then
    (halterref20_Files.f a0).bind fun t11 =>
    if t1.1 = t2.1 then
      if t1.2.1 = t2.2.1 then
        (num.f t1.2.2).bind fun t14 =>
        if t14 = t2.2.2 then
          if t3.1 = t4.1 then
            (num.f t3.2).bind fun t17 =>
            if t17 = t4.2 then
              if t5.1 = t6.1 then
                if t5.2.1 = t6.2.1 then
                  (num.f t5.2.2).bind fun t21 =>
                  if t21 = t6.2.2 then
                    if t7.1 = t8.1 then
                      if t7.2.1 = t8.2.1 then
                        (num.f t7.2.2).bind fun t25 =>
                        if t25 = t8.2.2 then
                          (fds_Files.f a0).bind fun t27 =>
                          (halterref20_Files.f a0).bind fun t28 =>
                          (halterlaw20_ints.f t27 t28).bind fun t29 =>
                          if t29 = true then
                            (fds_Free.f a0).bind fun t31 =>
                            if t31 = (IntKind.wrap .i64 ((8 : Int) - (((List.length t11) : Nat) : Int))) then
                              (fds_Check.f a0).bind fun t33 =>
                              (halterref20_May.f a0).bind fun t34 =>
                              if (Option.isNone t33) = t34 then
                                halterlaw20_sure.f.bind fun t36 =>
                                some t36
                              else
                                some false
                            else
                              some false
                          else
                            some false
                        else
                          some false
                      else
                        some false
                    else
                      some false
                  else
                    some false
                else
                  some false
              else
                some false
            else
              some false
          else
            some false
        else
          some false
      else
        some false
    else
      some false
  else
    if t1.1 = t2.1 then
      if t1.2.1 = t2.2.1 then
        (num.f t1.2.2).bind fun t39 =>
        if t39 = t2.2.2 then
          if t3.1 = t4.1 then
            (num.f t3.2).bind fun t42 =>
            if t42 = t4.2 then
              if t5.1 = t6.1 then
                if t5.2.1 = t6.2.1 then
                  (num.f t5.2.2).bind fun t46 =>
                  if t46 = t6.2.2 then
                    if t7.1 = t8.1 then
                      if t7.2.1 = t8.2.1 then
                        (num.f t7.2.2).bind fun t50 =>
                        if t50 = t8.2.2 then
                          (fds_Files.f a0).bind fun t52 =>
                          (halterref20_Files.f a0).bind fun t53 =>
                          (halterlaw20_ints.f t52 t53).bind fun t54 =>
                          if t54 = true then
                            (fds_Free.f a0).bind fun t56 =>
                            if t56 = (0 : Int) then
                              (fds_Check.f a0).bind fun t58 =>
                              (halterref20_May.f a0).bind fun t59 =>
                              if (Option.isNone t58) = t59 then
                                halterlaw20_sure.f.bind fun t61 =>
                                some t61
                              else
                                some false
                            else
                              some false
                          else
                            some false
                        else
                          some false
                      else
                        some false
                    else
                      some false
                  else
                    some false
                else
                  some false
              else
                some false
            else
              some false
          else
            some false
        else
          some false
      else
        some false
    else
      some false
def halterlaw20_FdsSteps.R (r : Bool) : Tm := .v (.one (.sc (.bool r)))
end Go.Proofs.YtbpaijnlapedlaaDoorGFdsSteps
