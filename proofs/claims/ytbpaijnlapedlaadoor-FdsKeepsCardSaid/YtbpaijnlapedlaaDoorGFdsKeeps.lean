/- Printed by gen.py: what functions of the program compute, in plain Lean, and that they do. -/
import Derived.Test.YtbpaijnlapedlaaDoorE15
import Derived.Test.YtbpaijnlapedlaaDoorN
set_option linter.unusedVariables false
set_option maxRecDepth 100000
namespace Go.Proofs.YtbpaijnlapedlaaDoorGFdsKeeps
open Go Go.Proofs.YtbpaijnlapedlaaDoorE
def tiL : List (Nat × TI) := [
  (3, ⟨1, 8, false, .int .i64, [.c (.sc (.int .i64 (0 : Int)))], some (.int .i64)⟩),
  (4, ⟨1, 1, false, .bool, [.c (.sc (.bool false))], some .bool⟩),
  (22, ⟨8, 64, true, (.array 8 3), [.row 8 (.int .i64) (List.replicate 8 (0 : Int))], some (.arr 8 (.int .i64))⟩),
  (24, ⟨8, 64, true, (.struct [(0, 22)]), [.row 8 (.int .i64) (List.replicate 8 (0 : Int))], some (.arr 8 (.int .i64))⟩),
  (26, ⟨1, 16, false, .iface, [.c (.err none)], none⟩),
  (36, ⟨1, 24, false, (.slice 3), [.c (.sc (.slice none 0 0))], some (.sl (.int .i64))⟩),
  (45, ⟨1, 8, false, .int .u64, [.c (.sc (.int .u64 (0 : Int)))], some (.int .u64)⟩),
  (47, ⟨1, 8, false, .int .i64, [.c (.sc (.int .i64 (0 : Int)))], some (.int .i64)⟩)]
noncomputable def cfg : Cfg := ⟨Tryd.prog, 47, [(⟨0, 0, none⟩, .iface 64 (.agg #[.pointer (some ⟨1, 26, none⟩)]))], tiL, [24]⟩
theorem cfg_ok : COk cfg := by
  refine ⟨fun p hp => ?_, by kernel_rfl, fun p hp => ?_, fun t ht => ?_⟩
  · simp only [cfg, tiL, List.mem_cons, List.not_mem_nil, or_false] at hp
    rcases hp with rfl | rfl | rfl | rfl | rfl | rfl | rfl | rfl <;> exact ⟨by kernel_rfl, by kernel_rfl, by kernel_rfl, by kernel_rfl, by kernel_rfl, by kernel_rfl⟩
  · simp only [cfg, tiL, List.mem_cons, List.not_mem_nil, or_false] at hp
    rcases hp with rfl | rfl | rfl | rfl | rfl | rfl | rfl | rfl <;> intro fs hfs bl hbl
    · cases hfs
    · cases hfs
    · cases hfs
    · cases hfs
      have e : fieldsZ cfg.L 0 [(0, 22)] = some [[.row 8 (.int .i64) (List.replicate 8 (0 : Int))]] := by kernel_rfl
      rw [e] at hbl
      cases hbl
      exact (by kernel_rfl : encPs (List.flatten [[.row 8 (.int .i64) (List.replicate 8 (0 : Int))]]) = encPs [.row 8 (.int .i64) (List.replicate 8 (0 : Int))])
    · cases hfs
    · cases hfs
    · cases hfs
    · cases hfs
  · simp only [cfg, List.mem_cons, List.not_mem_nil, or_false] at ht
    rcases ht with rfl <;> kernel_rfl
def fin : Scr → List Adj
  | .adj l _ => l
  | _ => []
/-! the error's number -/
def num.f (a0 : Option Int) : Option Int := some (a0.getD 0)
def num.R (r : Int) : Tm := .v (.one (.sc (.int .i64 r)))
theorem num.fun_ {a0 : Option Int} {r : Int} (h : num.f a0 = some r) : Fun cfg 16 [.one (.err a0)] [] (num.R r) [] := by
  refine Fun.of_below (f := 16) (fn := Tryd.f16) Tryd.func16 rfl (by kernel_rfl) (r := .int .i64 r) (fun X => ⟨⟨rfl, rfl⟩, rfl⟩) fun X vs hE hvs hG => ?_
  obtain ⟨v, us, rfl, hv, rfl⟩ := hvs
  have hv : v = errV X.E a0 := hv.1
  have he : errV cfg.E a0 = YtbpaijnlapedlaaDoorN.errW a0 := by cases a0 <;> rfl
  rw [hv, hE, he]
  exact YtbpaijnlapedlaaDoorN.num.calls a0 r X.w (hG _ (List.mem_cons_self ..)) h
/-! halter/fds.Check -/
def fds_Check.l0 (a0 : (List Int)) : Nat → Int → Option ((Unit) ⊕ (Unit))
  | 0, _ => none
  | n + 1, x1 =>
    if x1 < (8 : Int) then
      if 0 ≤ x1 ∧ x1 < ((8 : Nat) : Int) then
        if (List.getD a0 (Int.toNat x1) (0 : Int)) < (0 : Int) then
          some (.inr ())
        else
          if (List.getD a0 (Int.toNat x1) (0 : Int)) > (32 : Int) then
            some (.inr ())
          else
            fds_Check.l0 a0 n (IntKind.wrap .i64 (x1 + (1 : Int)))
      else none
    else
      some (.inl ())
def fds_Check.l0_S (a0 : (List Int)) (x1 : Int) : St := ⟨[.any, .any, .any, .any, .any, .any, .v (.agg [.row 8 (.int .i64) a0]), .v (.one (.sc (.int .i64 x1))), .any, .any, .any, .any, .any, .any, .any, .any, .any, .any], [.ex false [.row 8 (.int .i64) a0] 24], 0⟩
def fds_Check.l0_Q (a0 : (List Int)) : (Unit) ⊕ (Unit) → Exit → St → Prop
  | .inl t => fun e s => e = (.exit 0) ∧ s = ⟨[.any, .any, .any, .any, .any, .any, .any, .any, .any, .any, .any, .any, .any, .any, .any, .any, .any, .any], [.ex false [.row 8 (.int .i64) a0] 24], 0⟩
  | .inr t => fun e s => e = .ret ∧ s = ⟨[.any, .any, .v (.one (.err (some (22 : Int)))), .any, .any, .any, .any, .any, .any, .any, .any, .any, .any, .any, .any, .any, .any, .any], [.ex false [.row 8 (.int .i64) a0] 24], 0⟩
theorem fds_Check.l0_ok (a0 : (List Int)) : ∀ (n : Nat) (x1 : Int) (r : (Unit) ⊕ (Unit)), fds_Check.l0 a0 n x1 = some r → TripN cfg (cpath (Tryd.f20.body.getD .skip) [1, 0, 1, 0, 0]) n (fds_Check.l0_S a0 x1) (fds_Check.l0_Q a0 r)
  | 0, _, r, h => by cases h
  | n + 1, x1, r, h => by
    rw [fds_Check.l0] at h
    refine TripN.of_run cfg_ok (k := (.br (.br (.one true (.one true (.one true (.adj [] (.adj [.keep [2], .drop 1] .nil))))) (.one false (.one false (.br (.adj [] (.adj [.keep [2], .drop 1] .nil)) (.adj [] (.adj [] (.adj [.keep [6, 7], .drop 1] .nil))))))) (.adj [.keep [], .drop 1] .nil))) (to_goal (q := (True) ∧ (((decide (x1 < (8 : Int))) = true → (0 ≤ x1 ∧ x1 < ((8 : Nat) : Int)) ∧ (True) ∧ (((decide ((List.getD a0 (Int.toNat x1) (0 : Int)) < (0 : Int))) = false → ((decide ((List.getD a0 (Int.toNat x1) (0 : Int)) < (0 : Int))) = false ∧ (True) ∧ ((decide ((List.getD a0 (Int.toNat x1) (0 : Int)) < (0 : Int))) = false ∧ (((decide ((List.getD a0 (Int.toNat x1) (0 : Int)) > (32 : Int))) = true → (True ∧ (((True) ∧ (True) ∧ True) ∧ fds_Check.l0_Q a0 r .ret ⟨[.any, .any, .v (.one (.err (some (22 : Int)))), .any, .any, .any, .any, .any, .any, .any, .any, .any, .any, .any, .any, .any, .any, .any], [.ex false [.row 8 (.int .i64) a0] 24], 0⟩))) ∧ ((decide ((List.getD a0 (Int.toNat x1) (0 : Int)) > (32 : Int))) = false → (True ∧ (True ∧ (True) ∧ (((True) ∧ (True) ∧ True) ∧ TripN cfg (cpath (Tryd.f20.body.getD .skip) [1, 0, 1, 0, 0]) n (fds_Check.l0_S a0 (IntKind.wrap .i64 (x1 + (1 : Int)))) (fds_Check.l0_Q a0 r))))))))) ∧ ((decide ((List.getD a0 (Int.toNat x1) (0 : Int)) < (0 : Int))) = true → ((decide ((List.getD a0 (Int.toNat x1) (0 : Int)) < (0 : Int))) = true ∧ ((decide ((List.getD a0 (Int.toNat x1) (0 : Int)) < (0 : Int))) = true ∧ (true = true ∧ (True ∧ (((True) ∧ (True) ∧ True) ∧ fds_Check.l0_Q a0 r .ret ⟨[.any, .any, .v (.one (.err (some (22 : Int)))), .any, .any, .any, .any, .any, .any, .any, .any, .any, .any, .any, .any, .any, .any, .any], [.ex false [.row 8 (.int .i64) a0] 24], 0⟩)))))))) ∧ ((decide (x1 < (8 : Int))) = false → (((True) ∧ (True) ∧ True) ∧ fds_Check.l0_Q a0 r (.exit 0) ⟨[.any, .any, .any, .any, .any, .any, .any, .any, .any, .any, .any, .any, .any, .any, .any, .any, .any, .any], [.ex false [.row 8 (.int .i64) a0] 24], 0⟩)))) (by kernel_rfl) ?_)
    refine ⟨trivial, ?_⟩
    refine ⟨fun b7 => ?_, fun b7 => ?_⟩
    · rw [if_pos (of_decide_eq_true b7)] at h
      obtain ⟨g10, h⟩ := of_guard h
      refine ⟨g10, ?_⟩
      refine ⟨trivial, ?_⟩
      refine ⟨fun b8 => ?_, fun b8 => ?_⟩
      · rw [if_neg (of_decide_eq_false b8)] at h
        refine ⟨b8, ?_⟩
        refine ⟨trivial, ?_⟩
        refine ⟨b8, ?_⟩
        refine ⟨fun b9 => ?_, fun b9 => ?_⟩
        · rw [if_pos (of_decide_eq_true b9)] at h
          refine ⟨trivial, ?_⟩
          obtain rfl := Option.some.inj h
          exact ⟨⟨trivial, trivial, trivial⟩, rfl, rfl⟩
        · rw [if_neg (of_decide_eq_false b9)] at h
          refine ⟨trivial, ?_⟩
          refine ⟨trivial, ?_⟩
          refine ⟨trivial, ?_⟩
          exact ⟨⟨trivial, trivial, trivial⟩, fds_Check.l0_ok a0 n (IntKind.wrap .i64 (x1 + (1 : Int))) r h⟩
      · rw [if_pos (of_decide_eq_true b8)] at h
        refine ⟨b8, ?_⟩
        refine ⟨b8, ?_⟩
        refine ⟨rfl, ?_⟩
        refine ⟨trivial, ?_⟩
        obtain rfl := Option.some.inj h
        exact ⟨⟨trivial, trivial, trivial⟩, rfl, rfl⟩
    · rw [if_neg (of_decide_eq_false b7)] at h
      obtain rfl := Option.some.inj h
      exact ⟨⟨trivial, trivial, trivial⟩, rfl, rfl⟩
def fds_Check.f (a0 : (List Int)) : Option (Option Int) :=
  (fds_Check.l0 a0 FUEL (0 : Int)).bind fun t6 =>
  match t6 with
  | .inl t11 =>
    some none
  | .inr t12 =>
    some (some (22 : Int))
def fds_Check.R (r : (Option Int)) : Tm := .v (.one (.err r))
theorem fds_Check.fun_ {a0 : (List Int)} {r : (Option Int)} (h : fds_Check.f a0 = some r) : Fun cfg 20 [.agg [.row 8 (.int .i64) a0]] [] (fds_Check.R r) [] := by
  unfold fds_Check.f at h
  refine fun_of_run cfg_ok (f := 20) (fn := Tryd.f20) Tryd.func20 rfl (by kernel_rfl) (rs := [.tmp 2]) rfl (nt := 18) rfl (l := fin) (k := (.adj [] (.adj [] (.adj [.keep [6, 7]] (.alt (.sub (Unit) (fun _ => (.exit 0)) (fun t11 => ⟨[.any, .any, .any, .any, .any, .any, .any, .any, .any, .any, .any, .any, .any, .any, .any, .any, .any, .any], [.ex false [.row 8 (.int .i64) a0] 24], 0⟩) (fun t11 => (.adj [] (.adj [] (.adj [.drop 0] .nil))))) (.sub (Unit) (fun _ => .ret) (fun t12 => ⟨[.any, .any, .v (.one (.err (some (22 : Int)))), .any, .any, .any, .any, .any, .any, .any, .any, .any, .any, .any, .any, .any, .any, .any], [.ex false [.row 8 (.int .i64) a0] 24], 0⟩) (fun t12 => (.adj [.drop 0] .nil)))))))) (to_goal (q := (True ∧ (True ∧ (True) ∧ (((True) ∧ True) ∧ ((∃ t11 : Unit, Trip cfg (.loop (cpath (Tryd.f20.body.getD .skip) [1, 0, 1, 0, 0])) ⟨[.any, .any, .any, .any, .any, .any, .v (.agg [.row 8 (.int .i64) a0]), .v (.one (.sc (.int .i64 (0 : Int)))), .any, .any, .any, .any, .any, .any, .any, .any, .any, .any], [.ex false [.row 8 (.int .i64) a0] 24], 0⟩ (fun e s => e = (.exit 0) ∧ s = ⟨[.any, .any, .any, .any, .any, .any, .any, .any, .any, .any, .any, .any, .any, .any, .any, .any, .any, .any], [.ex false [.row 8 (.int .i64) a0] 24], 0⟩) ∧ (True ∧ (True ∧ ((True) ∧ ((True) ∧ True) ∧ (.v (.one (.err none)) : Tm) = fds_Check.R r ∧ ([] : List Box) = [])))) ∨ (∃ t12 : Unit, Trip cfg (.loop (cpath (Tryd.f20.body.getD .skip) [1, 0, 1, 0, 0])) ⟨[.any, .any, .any, .any, .any, .any, .v (.agg [.row 8 (.int .i64) a0]), .v (.one (.sc (.int .i64 (0 : Int)))), .any, .any, .any, .any, .any, .any, .any, .any, .any, .any], [.ex false [.row 8 (.int .i64) a0] 24], 0⟩ (fun e s => e = .ret ∧ s = ⟨[.any, .any, .v (.one (.err (some (22 : Int)))), .any, .any, .any, .any, .any, .any, .any, .any, .any, .any, .any, .any, .any, .any, .any], [.ex false [.row 8 (.int .i64) a0] 24], 0⟩) ∧ ((True) ∧ ((True) ∧ True) ∧ (.v (.one (.err (some (22 : Int)))) : Tm) = fds_Check.R r ∧ ([] : List Box) = []))))))) (by kernel_rfl) ?_)
  refine ⟨trivial, ?_⟩
  refine ⟨trivial, ?_⟩
  refine ⟨trivial, ?_⟩
  obtain ⟨t6, ht6, h⟩ := of_bind h
  refine ⟨⟨trivial, trivial⟩, ?_⟩
  rcases t6 with t11 | t12
  · dsimp only at h
    left
    refine ⟨t11, Trip.loop FUEL (fds_Check.l0_ok a0 FUEL (0 : Int) (.inl t11) ht6), ?_⟩
    refine ⟨trivial, ?_⟩
    refine ⟨trivial, ?_⟩
    obtain rfl := Option.some.inj h
    exact ⟨trivial, ⟨trivial, trivial⟩, rfl, rfl⟩
  · dsimp only at h
    right
    refine ⟨t12, Trip.loop FUEL (fds_Check.l0_ok a0 FUEL (0 : Int) (.inr t12) ht6), ?_⟩
    obtain rfl := Option.some.inj h
    exact ⟨trivial, ⟨trivial, trivial⟩, rfl, rfl⟩
/-! slices.Index[[]int,int] -/
def slices_Index_int_int.l0 (a0 : (List Int)) (a1 : Int) : Nat → Int → Option ((Unit) ⊕ (Int))
  | 0, _ => none
  | n + 1, x1 =>
    if x1 < (((List.length a0) : Nat) : Int) then
      if 0 ≤ x1 ∧ x1 < (((List.length a0) : Nat) : Int) then
        if a1 = (List.getD a0 (Int.toNat x1) (0 : Int)) then
          some (.inr x1)
        else
          slices_Index_int_int.l0 a0 a1 n (IntKind.wrap .i64 (x1 + (1 : Int)))
      else none
    else
      some (.inl ())
def slices_Index_int_int.l0_S (a0 : (List Int)) (a1 : Int) (x1 : Int) : St := ⟨[.v (.one (.fs (.int .i64) a0 false)), .v (.one (.sc (.int .i64 a1))), .any, .any, .any, .any, .any, .v (.one (.sc (.int .i64 (((List.length a0) : Nat) : Int)))), .v (.one (.sc (.int .i64 x1))), .any, .any, .any, .any, .any, .any, .any, .any, .any, .any], [], 0⟩
def slices_Index_int_int.l0_Q (a0 : (List Int)) (a1 : Int) : (Unit) ⊕ (Int) → Exit → St → Prop
  | .inl t => fun e s => e = (.exit 0) ∧ s = ⟨[.any, .any, .any, .any, .any, .any, .any, .any, .any, .any, .any, .any, .any, .any, .any, .any, .any, .any, .any], [], 0⟩
  | .inr t => fun e s => e = .ret ∧ s = ⟨[.any, .any, .any, .any, .v (.one (.sc (.int .i64 t))), .any, .any, .any, .any, .any, .any, .any, .any, .any, .any, .any, .any, .any, .any], [], 0⟩
theorem slices_Index_int_int.l0_ok (a0 : (List Int)) (a1 : Int) : ∀ (n : Nat) (x1 : Int) (r : (Unit) ⊕ (Int)), slices_Index_int_int.l0 a0 a1 n x1 = some r → TripN cfg (cpath (Tryd.f22.body.getD .skip) [1, 0, 1, 0, 0]) n (slices_Index_int_int.l0_S a0 a1 x1) (slices_Index_int_int.l0_Q a0 a1 r)
  | 0, _, r, h => by cases h
  | n + 1, x1, r, h => by
    rw [slices_Index_int_int.l0] at h
    refine TripN.of_run cfg_ok (k := (.br (.br (.adj [] (.adj [.keep [4], .drop 0] .nil)) (.adj [] (.adj [] (.adj [.keep [0, 1, 7, 8], .drop 0] .nil)))) (.adj [.keep [], .drop 0] .nil))) (to_goal (q := (True) ∧ (((decide (x1 < (((List.length a0) : Nat) : Int))) = true → (0 ≤ x1 ∧ x1 < (((List.length a0) : Nat) : Int)) ∧ (True) ∧ (True) ∧ (((a1 == (List.getD a0 (Int.toNat x1) (0 : Int))) = true → (True ∧ (((True) ∧ (True) ∧ True) ∧ slices_Index_int_int.l0_Q a0 a1 r .ret ⟨[.any, .any, .any, .any, .v (.one (.sc (.int .i64 x1))), .any, .any, .any, .any, .any, .any, .any, .any, .any, .any, .any, .any, .any, .any], [], 0⟩))) ∧ ((a1 == (List.getD a0 (Int.toNat x1) (0 : Int))) = false → (True ∧ (True ∧ (True) ∧ (((True) ∧ (True) ∧ True) ∧ TripN cfg (cpath (Tryd.f22.body.getD .skip) [1, 0, 1, 0, 0]) n (slices_Index_int_int.l0_S a0 a1 (IntKind.wrap .i64 (x1 + (1 : Int)))) (slices_Index_int_int.l0_Q a0 a1 r))))))) ∧ ((decide (x1 < (((List.length a0) : Nat) : Int))) = false → (((True) ∧ (True) ∧ True) ∧ slices_Index_int_int.l0_Q a0 a1 r (.exit 0) ⟨[.any, .any, .any, .any, .any, .any, .any, .any, .any, .any, .any, .any, .any, .any, .any, .any, .any, .any, .any], [], 0⟩)))) (by kernel_rfl) ?_)
    refine ⟨trivial, ?_⟩
    refine ⟨fun b7 => ?_, fun b7 => ?_⟩
    · rw [if_pos (of_decide_eq_true b7)] at h
      obtain ⟨g9, h⟩ := of_guard h
      refine ⟨g9, ?_⟩
      refine ⟨trivial, ?_⟩
      refine ⟨trivial, ?_⟩
      refine ⟨fun b8 => ?_, fun b8 => ?_⟩
      · rw [if_pos (beq_t b8)] at h
        refine ⟨trivial, ?_⟩
        obtain rfl := Option.some.inj h
        exact ⟨⟨trivial, trivial, trivial⟩, rfl, rfl⟩
      · rw [if_neg (beq_f b8)] at h
        refine ⟨trivial, ?_⟩
        refine ⟨trivial, ?_⟩
        refine ⟨trivial, ?_⟩
        exact ⟨⟨trivial, trivial, trivial⟩, slices_Index_int_int.l0_ok a0 a1 n (IntKind.wrap .i64 (x1 + (1 : Int))) r h⟩
    · rw [if_neg (of_decide_eq_false b7)] at h
      obtain rfl := Option.some.inj h
      exact ⟨⟨trivial, trivial, trivial⟩, rfl, rfl⟩
def slices_Index_int_int.f (a0 : (List Int)) (a1 : Int) : Option Int :=
  (slices_Index_int_int.l0 a0 a1 FUEL (0 : Int)).bind fun t6 =>
  match t6 with
  | .inl t11 =>
    some (-1 : Int)
  | .inr t12 =>
    some t12
def slices_Index_int_int.R (r : Int) : Tm := .v (.one (.sc (.int .i64 r)))
theorem slices_Index_int_int.fun_ {a0 : (List Int)} {a1 : Int} {r : Int} (h : slices_Index_int_int.f a0 a1 = some r) : Fun cfg 22 [.one (.fs (.int .i64) a0 false), .one (.sc (.int .i64 a1))] [] (slices_Index_int_int.R r) [] := by
  unfold slices_Index_int_int.f at h
  refine fun_of_run cfg_ok (f := 22) (fn := Tryd.f22) Tryd.func22 rfl (by kernel_rfl) (rs := [.tmp 4]) rfl (nt := 19) rfl (l := fin) (k := (.adj [] (.adj [] (.adj [.keep [0, 1, 7, 8]] (.alt (.sub (Unit) (fun _ => (.exit 0)) (fun t11 => ⟨[.any, .any, .any, .any, .any, .any, .any, .any, .any, .any, .any, .any, .any, .any, .any, .any, .any, .any, .any], [], 0⟩) (fun t11 => (.adj [] (.adj [] (.adj [] .nil))))) (.sub (Int) (fun _ => .ret) (fun t12 => ⟨[.any, .any, .any, .any, .v (.one (.sc (.int .i64 t12))), .any, .any, .any, .any, .any, .any, .any, .any, .any, .any, .any, .any, .any, .any], [], 0⟩) (fun t12 => (.adj [] .nil)))))))) (to_goal (q := (True ∧ (True ∧ (True) ∧ (((True) ∧ True) ∧ ((∃ t11 : Unit, Trip cfg (.loop (cpath (Tryd.f22.body.getD .skip) [1, 0, 1, 0, 0])) ⟨[.v (.one (.fs (.int .i64) a0 false)), .v (.one (.sc (.int .i64 a1))), .any, .any, .any, .any, .any, .v (.one (.sc (.int .i64 (((List.length a0) : Nat) : Int)))), .v (.one (.sc (.int .i64 (0 : Int)))), .any, .any, .any, .any, .any, .any, .any, .any, .any, .any], [], 0⟩ (fun e s => e = (.exit 0) ∧ s = ⟨[.any, .any, .any, .any, .any, .any, .any, .any, .any, .any, .any, .any, .any, .any, .any, .any, .any, .any, .any], [], 0⟩) ∧ (True ∧ (True ∧ ((True) ∧ (True) ∧ (.v (.one (.sc (.int .i64 (-1 : Int)))) : Tm) = slices_Index_int_int.R r ∧ ([] : List Box) = [])))) ∨ (∃ t12 : Int, Trip cfg (.loop (cpath (Tryd.f22.body.getD .skip) [1, 0, 1, 0, 0])) ⟨[.v (.one (.fs (.int .i64) a0 false)), .v (.one (.sc (.int .i64 a1))), .any, .any, .any, .any, .any, .v (.one (.sc (.int .i64 (((List.length a0) : Nat) : Int)))), .v (.one (.sc (.int .i64 (0 : Int)))), .any, .any, .any, .any, .any, .any, .any, .any, .any, .any], [], 0⟩ (fun e s => e = .ret ∧ s = ⟨[.any, .any, .any, .any, .v (.one (.sc (.int .i64 t12))), .any, .any, .any, .any, .any, .any, .any, .any, .any, .any, .any, .any, .any, .any], [], 0⟩) ∧ ((True) ∧ (True) ∧ (.v (.one (.sc (.int .i64 t12))) : Tm) = slices_Index_int_int.R r ∧ ([] : List Box) = []))))))) (by kernel_rfl) ?_)
  refine ⟨trivial, ?_⟩
  refine ⟨trivial, ?_⟩
  refine ⟨trivial, ?_⟩
  obtain ⟨t6, ht6, h⟩ := of_bind h
  refine ⟨⟨trivial, trivial⟩, ?_⟩
  rcases t6 with t11 | t12
  · dsimp only at h
    left
    refine ⟨t11, Trip.loop FUEL (slices_Index_int_int.l0_ok a0 a1 FUEL (0 : Int) (.inl t11) ht6), ?_⟩
    refine ⟨trivial, ?_⟩
    refine ⟨trivial, ?_⟩
    obtain rfl := Option.some.inj h
    exact ⟨trivial, trivial, rfl, rfl⟩
  · dsimp only at h
    right
    refine ⟨t12, Trip.loop FUEL (slices_Index_int_int.l0_ok a0 a1 FUEL (0 : Int) (.inr t12) ht6), ?_⟩
    obtain rfl := Option.some.inj h
    exact ⟨trivial, trivial, rfl, rfl⟩
/-! halter/fds.Put -/
def fds_Put.f (a0 : (List Int)) (a1 : Int) : Option (Int × (List Int) × (Option Int)) :=
  (fds_Check.f a0).bind fun t1 =>
  if ¬ (t1 = none) then
    some ((0 : Int), (List.replicate 8 (0 : Int)), (some (22 : Int)))
  else
    if a1 < (0 : Int) then
      some ((0 : Int), (List.replicate 8 (0 : Int)), (some (22 : Int)))
    else
      if a1 ≥ (32 : Int) then
        some ((0 : Int), (List.replicate 8 (0 : Int)), (some (22 : Int)))
      else
        (slices_Index_int_int.f (List.take 8 a0) (0 : Int)).bind fun t5 =>
        if t5 < (0 : Int) then
          some ((0 : Int), (List.replicate 8 (0 : Int)), (some (24 : Int)))
        else
          if 0 ≤ t5 ∧ t5 < ((8 : Nat) : Int) then
            if (Int.toNat t5) < 8 then
              some (t5, (List.set a0 (Int.toNat t5) (IntKind.wrap .i64 (a1 + (1 : Int)))), none)
            else none
          else none
def fds_Put.R (r : Int × (List Int) × (Option Int)) : Tm := .tup [.one (.sc (.int .i64 r.1)), .agg [.row 8 (.int .i64) r.2.1], .one (.err r.2.2)]
theorem fds_Put.fun_ {a0 : (List Int)} {a1 : Int} {r : Int × (List Int) × (Option Int)} (h : fds_Put.f a0 a1 = some r) : Fun cfg 6 [.agg [.row 8 (.int .i64) a0], .one (.sc (.int .i64 a1))] [] (fds_Put.R r) [] := by
  unfold fds_Put.f at h
  refine fun_of_run cfg_ok (f := 6) (fn := Tryd.f6) Tryd.func6 rfl (by kernel_rfl) (rs := [.tmp 4, .cell 5 24, .tmp 6]) rfl (nt := 35) rfl (l := fin) (k := (.call true [] ((Option Int)) (fun t1 => fds_Check.R t1) (fun t1 => (.br (.one true (.one true (.one true (.one true (.one true (.one true (.adj [] (.adj [] (.adj [.drop 0] .nil))))))))) (.one false (.one false (.br (.one true (.one true (.one true (.adj [] (.adj [] (.adj [.drop 0] .nil)))))) (.one false (.one false (.br (.adj [] (.adj [] (.adj [.drop 0] .nil))) (.call false [] (Int) (fun t5 => slices_Index_int_int.R t5) (fun t5 => (.br (.adj [] (.adj [] (.adj [.drop 0] .nil))) (.dr [(0, ⟨none, .no⟩), (1, ⟨none, .no⟩), (2, ⟨none, .no⟩), (3, ⟨none, .no⟩), (4, ⟨none, .no⟩)] (.adj [] (.adj [.drop 0] .nil)))))))))))))))) (to_goal (q := (True) ∧ (∃ t1 : (Option Int), (Fun cfg 20 [.agg [.row 8 (.int .i64) a0]] [] (fds_Check.R t1) [] ∧ True) ∧ (True) ∧ (((!(Option.isNone t1)) = false → ((!(Option.isNone t1)) = false ∧ (True) ∧ ((!(Option.isNone t1)) = false ∧ (((decide (a1 < (0 : Int))) = false → ((decide (a1 < (0 : Int))) = false ∧ (True) ∧ ((decide (a1 < (0 : Int))) = false ∧ (((decide (a1 ≥ (32 : Int))) = true → (True ∧ (True) ∧ (True ∧ (((True) ∧ True) ∧ ((True) ∧ True) ∧ (.tup [.one (.sc (.int .i64 (0 : Int))), .agg [.row 8 (.int .i64) (List.replicate 8 (0 : Int))], .one (.err (some (22 : Int)))] : Tm) = fds_Put.R r ∧ ([] : List Box) = [])))) ∧ ((decide (a1 ≥ (32 : Int))) = false → ((True) ∧ (True) ∧ (True) ∧ (false = true → false = true)) ∧ (∃ t5 : Int, ((0 + 8 ≤ 8) ∧ Fun cfg 22 [.one (.fs (.int .i64) (List.take 8 a0) false), .one (.sc (.int .i64 (0 : Int)))] [] (slices_Index_int_int.R t5) [] ∧ True) ∧ (True) ∧ (((decide (t5 < (0 : Int))) = true → (True ∧ (True) ∧ (True ∧ (((True) ∧ True) ∧ ((True) ∧ True) ∧ (.tup [.one (.sc (.int .i64 (0 : Int))), .agg [.row 8 (.int .i64) (List.replicate 8 (0 : Int))], .one (.err (some (24 : Int)))] : Tm) = fds_Put.R r ∧ ([] : List Box) = [])))) ∧ ((decide (t5 < (0 : Int))) = false → (True) ∧ (0 ≤ t5 ∧ t5 < ((8 : Nat) : Int)) ∧ ((Int.toNat t5) < 8) ∧ (True) ∧ (True) ∧ (True ∧ (((True) ∧ True) ∧ ((True) ∧ True) ∧ (.tup [.one (.sc (.int .i64 t5)), .agg [.row 8 (.int .i64) (List.set a0 (Int.toNat t5) (IntKind.wrap .i64 (a1 + (1 : Int))))], .one (.err none)] : Tm) = fds_Put.R r ∧ ([] : List Box) = [])))))))))) ∧ ((decide (a1 < (0 : Int))) = true → ((decide (a1 < (0 : Int))) = true ∧ ((decide (a1 < (0 : Int))) = true ∧ (true = true ∧ (True ∧ (True) ∧ (True ∧ (((True) ∧ True) ∧ ((True) ∧ True) ∧ (.tup [.one (.sc (.int .i64 (0 : Int))), .agg [.row 8 (.int .i64) (List.replicate 8 (0 : Int))], .one (.err (some (22 : Int)))] : Tm) = fds_Put.R r ∧ ([] : List Box) = []))))))))))) ∧ ((!(Option.isNone t1)) = true → ((!(Option.isNone t1)) = true ∧ ((!(Option.isNone t1)) = true ∧ (true = true ∧ (true = true ∧ (true = true ∧ (true = true ∧ (True ∧ (True) ∧ (True ∧ (((True) ∧ True) ∧ ((True) ∧ True) ∧ (.tup [.one (.sc (.int .i64 (0 : Int))), .agg [.row 8 (.int .i64) (List.replicate 8 (0 : Int))], .one (.err (some (22 : Int)))] : Tm) = fds_Put.R r ∧ ([] : List Box) = []))))))))))))) (by kernel_rfl) ?_)
  refine ⟨trivial, ?_⟩
  obtain ⟨t1, ht1, h⟩ := of_bind h
  refine ⟨t1, ⟨fds_Check.fun_ ht1, trivial⟩, ?_⟩
  refine ⟨trivial, ?_⟩
  refine ⟨fun b2 => ?_, fun b2 => ?_⟩
  · rw [if_neg (not_not_intro (none_t (not_f b2)))] at h
    refine ⟨b2, ?_⟩
    refine ⟨trivial, ?_⟩
    refine ⟨b2, ?_⟩
    refine ⟨fun b3 => ?_, fun b3 => ?_⟩
    · rw [if_neg (of_decide_eq_false b3)] at h
      refine ⟨b3, ?_⟩
      refine ⟨trivial, ?_⟩
      refine ⟨b3, ?_⟩
      refine ⟨fun b4 => ?_, fun b4 => ?_⟩
      · rw [if_pos (of_decide_eq_true b4)] at h
        refine ⟨trivial, ?_⟩
        refine ⟨trivial, ?_⟩
        refine ⟨trivial, ?_⟩
        obtain rfl := Option.some.inj h
        exact ⟨⟨trivial, trivial⟩, ⟨trivial, trivial⟩, rfl, rfl⟩
      · rw [if_neg (of_decide_eq_false b4)] at h
        refine ⟨⟨trivial, trivial, trivial, (by decide)⟩, ?_⟩
        obtain ⟨t5, ht5, h⟩ := of_bind h
        refine ⟨t5, ⟨(by decide), slices_Index_int_int.fun_ ht5, trivial⟩, ?_⟩
        refine ⟨trivial, ?_⟩
        refine ⟨fun b6 => ?_, fun b6 => ?_⟩
        · rw [if_pos (of_decide_eq_true b6)] at h
          refine ⟨trivial, ?_⟩
          refine ⟨trivial, ?_⟩
          refine ⟨trivial, ?_⟩
          obtain rfl := Option.some.inj h
          exact ⟨⟨trivial, trivial⟩, ⟨trivial, trivial⟩, rfl, rfl⟩
        · rw [if_neg (of_decide_eq_false b6)] at h
          refine ⟨trivial, ?_⟩
          obtain ⟨g8, h⟩ := of_guard h
          refine ⟨g8, ?_⟩
          obtain ⟨g7, h⟩ := of_guard h
          refine ⟨g7, ?_⟩
          refine ⟨trivial, trivial, ?_⟩
          refine ⟨trivial, ?_⟩
          obtain rfl := Option.some.inj h
          exact ⟨⟨trivial, trivial⟩, ⟨trivial, trivial⟩, rfl, rfl⟩
    · rw [if_pos (of_decide_eq_true b3)] at h
      refine ⟨b3, ?_⟩
      refine ⟨b3, ?_⟩
      refine ⟨rfl, ?_⟩
      refine ⟨trivial, ?_⟩
      refine ⟨trivial, ?_⟩
      refine ⟨trivial, ?_⟩
      obtain rfl := Option.some.inj h
      exact ⟨⟨trivial, trivial⟩, ⟨trivial, trivial⟩, rfl, rfl⟩
  · rw [if_pos (none_f (not_t b2))] at h
    refine ⟨b2, ?_⟩
    refine ⟨b2, ?_⟩
    refine ⟨rfl, ?_⟩
    refine ⟨rfl, ?_⟩
    refine ⟨rfl, ?_⟩
    refine ⟨rfl, ?_⟩
    refine ⟨trivial, ?_⟩
    refine ⟨trivial, ?_⟩
    refine ⟨trivial, ?_⟩
    obtain rfl := Option.some.inj h
    exact ⟨⟨trivial, trivial⟩, ⟨trivial, trivial⟩, rfl, rfl⟩
/-! halter/fds.Files -/
def fds_Files.l0 (a0 : (List Int)) : Nat → (List Int) → Int → Option (List Int)
  | 0, _, _ => none
  | n + 1, x12, x13 =>
    if x13 < (8 : Int) then
      if 0 ≤ x13 ∧ x13 < ((8 : Nat) : Int) then
        if (List.getD a0 (Int.toNat x13) (0 : Int)) > (0 : Int) then
          if (0 = 0 ∧ 1 = 1) ∧ 0 = 0 ∧ (List.length x12) = (List.length x12) ∧ (((List.length x12) + 1) * 8 ≤ 140737488355328 ∧ (List.length x12) + 1 ≤ 9223372036854775807) then
            fds_Files.l0 a0 n (x12 ++ [(IntKind.wrap .i64 ((List.getD a0 (Int.toNat x13) (0 : Int)) - (1 : Int)))]) (IntKind.wrap .i64 (x13 + (1 : Int)))
          else none
        else
          fds_Files.l0 a0 n x12 (IntKind.wrap .i64 (x13 + (1 : Int)))
      else none
    else
      some x12
def fds_Files.l0_S (a0 : (List Int)) (x12 : List Int) (x13 : Int) : St := ⟨[.any, .any, .any, .v (.one (.os 1 0 0 1 (List.length x12) none)), .any, .any, .any, .any, .any, .any, .v (.agg [.row 8 (.int .i64) a0]), .v (.one (.sc (.int .i64 x13))), .any, .any, .any, .any, .any, .any, .any, .any, .any, .any, .any], [.ex false [.row 8 (.int .i64) a0] 24, .gro false (.int .i64) x12 3], 0⟩
def fds_Files.l0_Q (a0 : (List Int)) (t : (List Int)) : Exit → St → Prop := fun e s => e = (.exit 0) ∧ s = ⟨[.any, .any, .any, .v (.one (.os 1 0 0 1 (List.length t) none)), .any, .any, .any, .any, .any, .any, .any, .any, .any, .any, .any, .any, .any, .any, .any, .any, .any, .any, .any], [.ex false [.row 8 (.int .i64) a0] 24, .gro false (.int .i64) t 3], 0⟩
theorem fds_Files.l0_ok (a0 : (List Int)) : ∀ (n : Nat) (x12 : List Int) (x13 : Int) (r : (List Int)), fds_Files.l0 a0 n x12 x13 = some r → TripN cfg (cpath (Tryd.f18.body.getD .skip) [1, 1, 1, 0, 1, 0, 0]) n (fds_Files.l0_S a0 x12 x13) (fds_Files.l0_Q a0 r)
  | 0, _, _, r, h => by cases h
  | n + 1, x12, x13, r, h => by
    rw [fds_Files.l0] at h
    refine TripN.of_run cfg_ok (k := (.br (.br (.d (.b true) (.adj [] (.adj [.keep [3, 10, 11], .drop 2] .nil))) (.adj [] (.adj [] (.adj [.keep [3, 10, 11], .drop 2] .nil)))) (.adj [.keep [3], .drop 2] .nil))) (to_goal (q := (True) ∧ (((decide (x13 < (8 : Int))) = true → (0 ≤ x13 ∧ x13 < ((8 : Nat) : Int)) ∧ (True) ∧ (((decide ((List.getD a0 (Int.toNat x13) (0 : Int)) > (0 : Int))) = true → (True) ∧ ((0 = 0 ∧ 1 = 1) ∧ 0 = 0 ∧ (List.length x12) = (List.length x12) ∧ (((List.length x12) + 1) * 8 ≤ 140737488355328 ∧ (List.length x12) + 1 ≤ 9223372036854775807)) ∧ (True ∧ (True) ∧ (((True) ∧ (True) ∧ True) ∧ TripN cfg (cpath (Tryd.f18.body.getD .skip) [1, 1, 1, 0, 1, 0, 0]) n (fds_Files.l0_S a0 (x12 ++ [(IntKind.wrap .i64 ((List.getD a0 (Int.toNat x13) (0 : Int)) - (1 : Int)))]) (IntKind.wrap .i64 (x13 + (1 : Int)))) (fds_Files.l0_Q a0 r)))) ∧ ((decide ((List.getD a0 (Int.toNat x13) (0 : Int)) > (0 : Int))) = false → (True ∧ (True ∧ (True) ∧ (((True) ∧ (True) ∧ True) ∧ TripN cfg (cpath (Tryd.f18.body.getD .skip) [1, 1, 1, 0, 1, 0, 0]) n (fds_Files.l0_S a0 x12 (IntKind.wrap .i64 (x13 + (1 : Int)))) (fds_Files.l0_Q a0 r))))))) ∧ ((decide (x13 < (8 : Int))) = false → (((True) ∧ (True) ∧ True) ∧ fds_Files.l0_Q a0 r (.exit 0) ⟨[.any, .any, .any, .v (.one (.os 1 0 0 1 (List.length x12) none)), .any, .any, .any, .any, .any, .any, .any, .any, .any, .any, .any, .any, .any, .any, .any, .any, .any, .any, .any], [.ex false [.row 8 (.int .i64) a0] 24, .gro false (.int .i64) x12 3], 0⟩)))) (by kernel_rfl) ?_)
    refine ⟨trivial, ?_⟩
    refine ⟨fun b20 => ?_, fun b20 => ?_⟩
    · rw [if_pos (of_decide_eq_true b20)] at h
      obtain ⟨g23, h⟩ := of_guard h
      refine ⟨g23, ?_⟩
      refine ⟨trivial, ?_⟩
      refine ⟨fun b21 => ?_, fun b21 => ?_⟩
      · rw [if_pos (of_decide_eq_true b21)] at h
        refine ⟨trivial, ?_⟩
        obtain ⟨g22, h⟩ := of_guard h
        refine ⟨g22, ?_⟩
        refine ⟨trivial, ?_⟩
        refine ⟨trivial, ?_⟩
        exact ⟨⟨trivial, trivial, trivial⟩, fds_Files.l0_ok a0 n (x12 ++ [(IntKind.wrap .i64 ((List.getD a0 (Int.toNat x13) (0 : Int)) - (1 : Int)))]) (IntKind.wrap .i64 (x13 + (1 : Int))) r h⟩
      · rw [if_neg (of_decide_eq_false b21)] at h
        refine ⟨trivial, ?_⟩
        refine ⟨trivial, ?_⟩
        refine ⟨trivial, ?_⟩
        exact ⟨⟨trivial, trivial, trivial⟩, fds_Files.l0_ok a0 n x12 (IntKind.wrap .i64 (x13 + (1 : Int))) r h⟩
    · rw [if_neg (of_decide_eq_false b20)] at h
      obtain rfl := Option.some.inj h
      exact ⟨⟨trivial, trivial, trivial⟩, rfl, rfl⟩
def fds_Files.f (a0 : (List Int)) : Option (List Int) :=
  (fds_Check.f a0).bind fun t1 =>
  if ¬ (t1 = none) then
    some ([] : List Int)
  else
    (fds_Files.l0 a0 FUEL ([] : List Int) (0 : Int)).bind fun t19 =>
    some t19
def fds_Files.R (r : (List Int)) : Tm := .v (.one (.fs (.int .i64) r false))
theorem fds_Files.fun_ {a0 : (List Int)} {r : (List Int)} (h : fds_Files.f a0 = some r) : Fun cfg 18 [.agg [.row 8 (.int .i64) a0]] [] (fds_Files.R r) [] := by
  unfold fds_Files.f at h
  refine fun_of_run cfg_ok (f := 18) (fn := Tryd.f18) Tryd.func18 rfl (by kernel_rfl) (rs := [.tmp 2]) rfl (nt := 23) rfl (l := fin) (k := (.call true [] ((Option Int)) (fun t1 => fds_Check.R t1) (fun t1 => (.br (.adj [] (.adj [] (.adj [.co 0 true [(.int .i64)], .drop 0] .nil))) (.adj [] (.adj [] (.adj [] (.adj [.keep [3, 10, 11], .nilGro 3 (.int .i64) 3] (.sub ((List Int)) (fun _ => (.exit 0)) (fun t19 => ⟨[.any, .any, .any, .v (.one (.os 1 0 0 1 (List.length t19) none)), .any, .any, .any, .any, .any, .any, .any, .any, .any, .any, .any, .any, .any, .any, .any, .any, .any, .any, .any], [.ex false [.row 8 (.int .i64) a0] 24, .gro false (.int .i64) t19 3], 0⟩) (fun t19 => (.adj [] (.adj [] (.adj [.co 0 true [], .drop 0] .nil))))))))))))) (to_goal (q := (True) ∧ (∃ t1 : (Option Int), (Fun cfg 20 [.agg [.row 8 (.int .i64) a0]] [] (fds_Check.R t1) [] ∧ True) ∧ (True) ∧ (((!(Option.isNone t1)) = true → (True ∧ (True ∧ ((True) ∧ ((True) ∧ (True) ∧ True) ∧ (.v (.one (.fs (.int .i64) ([] : List Int) false)) : Tm) = fds_Files.R r ∧ ([] : List Box) = [])))) ∧ ((!(Option.isNone t1)) = false → (True ∧ (True ∧ (True ∧ (True) ∧ (((True) ∧ (True) ∧ True) ∧ (∃ t19 : (List Int), Trip cfg (.loop (cpath (Tryd.f18.body.getD .skip) [1, 1, 1, 0, 1, 0, 0])) ⟨[.any, .any, .any, .v (.one (.os 1 0 0 1 0 none)), .any, .any, .any, .any, .any, .any, .v (.agg [.row 8 (.int .i64) a0]), .v (.one (.sc (.int .i64 (0 : Int)))), .any, .any, .any, .any, .any, .any, .any, .any, .any, .any, .any], [.ex false [.row 8 (.int .i64) a0] 24, .gro false (.int .i64) ([] : List Int) 3], 0⟩ (fun e s => e = (.exit 0) ∧ s = ⟨[.any, .any, .any, .v (.one (.os 1 0 0 1 (List.length t19) none)), .any, .any, .any, .any, .any, .any, .any, .any, .any, .any, .any, .any, .any, .any, .any, .any, .any, .any, .any], [.ex false [.row 8 (.int .i64) a0] 24, .gro false (.int .i64) t19 3], 0⟩) ∧ (True ∧ (True ∧ ((True) ∧ ((((0 = 0 ∧ (List.length t19) = (List.length t19))) ∧ True) ∧ (True) ∧ True) ∧ (.v (.one (.fs (.int .i64) t19 false)) : Tm) = fds_Files.R r ∧ ([] : List Box) = [])))))))))))) (by kernel_rfl) ?_)
  refine ⟨trivial, ?_⟩
  obtain ⟨t1, ht1, h⟩ := of_bind h
  refine ⟨t1, ⟨fds_Check.fun_ ht1, trivial⟩, ?_⟩
  refine ⟨trivial, ?_⟩
  refine ⟨fun b2 => ?_, fun b2 => ?_⟩
  · rw [if_pos (none_f (not_t b2))] at h
    refine ⟨trivial, ?_⟩
    refine ⟨trivial, ?_⟩
    obtain rfl := Option.some.inj h
    exact ⟨trivial, ⟨trivial, trivial, trivial⟩, rfl, rfl⟩
  · rw [if_neg (not_not_intro (none_t (not_f b2)))] at h
    refine ⟨trivial, ?_⟩
    refine ⟨trivial, ?_⟩
    refine ⟨trivial, ?_⟩
    refine ⟨trivial, ?_⟩
    obtain ⟨t19, ht19, h⟩ := of_bind h
    refine ⟨⟨trivial, trivial, trivial⟩, t19, Trip.loop FUEL (fds_Files.l0_ok a0 FUEL ([] : List Int) (0 : Int) t19 ht19), ?_⟩
    refine ⟨trivial, ?_⟩
    refine ⟨trivial, ?_⟩
    obtain rfl := Option.some.inj h
    exact ⟨trivial, ⟨⟨⟨rfl, rfl⟩, trivial⟩, trivial, trivial⟩, rfl, rfl⟩
/-! halter/fds.Free -/
def fds_Free.f (a0 : (List Int)) : Option Int :=
  (fds_Check.f a0).bind fun t1 =>
  if ¬ (t1 = none) then
    some (0 : Int)
  else
    (fds_Files.f a0).bind fun t3 =>
    some (IntKind.wrap .i64 ((8 : Int) - (((List.length t3) : Nat) : Int)))
def fds_Free.R (r : Int) : Tm := .v (.one (.sc (.int .i64 r)))
theorem fds_Free.fun_ {a0 : (List Int)} {r : Int} (h : fds_Free.f a0 = some r) : Fun cfg 19 [.agg [.row 8 (.int .i64) a0]] [] (fds_Free.R r) [] := by
  unfold fds_Free.f at h
  refine fun_of_run cfg_ok (f := 19) (fn := Tryd.f19) Tryd.func19 rfl (by kernel_rfl) (rs := [.tmp 2]) rfl (nt := 10) rfl (l := fin) (k := (.call true [] ((Option Int)) (fun t1 => fds_Check.R t1) (fun t1 => (.br (.adj [] (.adj [] (.adj [.drop 0] .nil))) (.call true [] ((List Int)) (fun t3 => fds_Files.R t3) (fun t3 => (.adj [] (.adj [.drop 0] .nil)))))))) (to_goal (q := (True) ∧ (∃ t1 : (Option Int), (Fun cfg 20 [.agg [.row 8 (.int .i64) a0]] [] (fds_Check.R t1) [] ∧ True) ∧ (True) ∧ (((!(Option.isNone t1)) = true → (True ∧ (True ∧ ((True) ∧ ((True) ∧ True) ∧ (.v (.one (.sc (.int .i64 (0 : Int)))) : Tm) = fds_Free.R r ∧ ([] : List Box) = [])))) ∧ ((!(Option.isNone t1)) = false → (True) ∧ (∃ t3 : (List Int), (Fun cfg 18 [.agg [.row 8 (.int .i64) a0]] [] (fds_Files.R t3) [] ∧ True) ∧ (True) ∧ (True) ∧ (True ∧ ((True) ∧ ((True) ∧ True) ∧ (.v (.one (.sc (.int .i64 (IntKind.wrap .i64 ((8 : Int) - (((List.length t3) : Nat) : Int)))))) : Tm) = fds_Free.R r ∧ ([] : List Box) = []))))))) (by kernel_rfl) ?_)
  refine ⟨trivial, ?_⟩
  obtain ⟨t1, ht1, h⟩ := of_bind h
  refine ⟨t1, ⟨fds_Check.fun_ ht1, trivial⟩, ?_⟩
  refine ⟨trivial, ?_⟩
  refine ⟨fun b2 => ?_, fun b2 => ?_⟩
  · rw [if_pos (none_f (not_t b2))] at h
    refine ⟨trivial, ?_⟩
    refine ⟨trivial, ?_⟩
    obtain rfl := Option.some.inj h
    exact ⟨trivial, ⟨trivial, trivial⟩, rfl, rfl⟩
  · rw [if_neg (not_not_intro (none_t (not_f b2)))] at h
    refine ⟨trivial, ?_⟩
    obtain ⟨t3, ht3, h⟩ := of_bind h
    refine ⟨t3, ⟨fds_Files.fun_ ht3, trivial⟩, ?_⟩
    refine ⟨trivial, ?_⟩
    refine ⟨trivial, ?_⟩
    refine ⟨trivial, ?_⟩
    obtain rfl := Option.some.inj h
    exact ⟨trivial, ⟨trivial, trivial⟩, rfl, rfl⟩
/-! halter/fds.At -/
def fds_At.f (a0 : (List Int)) (a1 : Int) : Option (Int × (Option Int)) :=
  (fds_Check.f a0).bind fun t1 =>
  if ¬ (t1 = none) then
    some ((0 : Int), (some (22 : Int)))
  else
    if a1 < (0 : Int) then
      some ((0 : Int), (some (9 : Int)))
    else
      if a1 ≥ (8 : Int) then
        some ((0 : Int), (some (9 : Int)))
      else
        if 0 ≤ a1 ∧ a1 < ((8 : Nat) : Int) then
          if (Int.toNat a1) < 8 then
            if (List.getD a0 (Int.toNat a1) (0 : Int)) = (0 : Int) then
              some ((0 : Int), (some (9 : Int)))
            else
              if 0 ≤ a1 ∧ a1 < ((8 : Nat) : Int) then
                if (Int.toNat a1) < 8 then
                  some ((IntKind.wrap .i64 ((List.getD a0 (Int.toNat a1) (0 : Int)) - (1 : Int))), none)
                else none
              else none
          else none
        else none
def fds_At.R (r : Int × (Option Int)) : Tm := .tup [.one (.sc (.int .i64 r.1)), .one (.err r.2)]
theorem fds_At.fun_ {a0 : (List Int)} {a1 : Int} {r : Int × (Option Int)} (h : fds_At.f a0 a1 = some r) : Fun cfg 8 [.agg [.row 8 (.int .i64) a0], .one (.sc (.int .i64 a1))] [] (fds_At.R r) [] := by
  unfold fds_At.f at h
  refine fun_of_run cfg_ok (f := 8) (fn := Tryd.f8) Tryd.func8 rfl (by kernel_rfl) (rs := [.tmp 4, .tmp 5]) rfl (nt := 31) rfl (l := fin) (k := (.call true [] ((Option Int)) (fun t1 => fds_Check.R t1) (fun t1 => (.br (.adj [] (.adj [] (.adj [.drop 0] .nil))) (.br (.one true (.one true (.one true (.one true (.one true (.one true (.one true (.one true (.one true (.adj [] (.adj [] (.adj [.drop 0] .nil)))))))))))) (.one false (.one false (.br (.one true (.one true (.one true (.one true (.one true (.one true (.adj [] (.adj [] (.adj [.drop 0] .nil))))))))) (.one false (.one false (.one false (.one false (.one false (.br (.adj [] (.adj [] (.adj [.drop 0] .nil))) (.adj [] (.adj [] (.adj [] (.adj [.drop 0] .nil)))))))))))))))))) (to_goal (q := (True) ∧ (∃ t1 : (Option Int), (Fun cfg 20 [.agg [.row 8 (.int .i64) a0]] [] (fds_Check.R t1) [] ∧ True) ∧ (True) ∧ (((!(Option.isNone t1)) = true → (True ∧ (True ∧ ((True) ∧ ((True) ∧ True) ∧ (.tup [.one (.sc (.int .i64 (0 : Int))), .one (.err (some (22 : Int)))] : Tm) = fds_At.R r ∧ ([] : List Box) = [])))) ∧ ((!(Option.isNone t1)) = false → (True) ∧ (((decide (a1 < (0 : Int))) = false → ((decide (a1 < (0 : Int))) = false ∧ (True) ∧ ((decide (a1 < (0 : Int))) = false ∧ (((decide (a1 ≥ (8 : Int))) = false → ((decide (a1 ≥ (8 : Int))) = false ∧ ((decide (a1 ≥ (8 : Int))) = false ∧ (0 ≤ a1 ∧ a1 < ((8 : Nat) : Int)) ∧ ((decide (a1 ≥ (8 : Int))) = false ∧ ((Int.toNat a1) < 8) ∧ ((decide (a1 ≥ (8 : Int))) = false ∧ (True) ∧ ((decide (a1 ≥ (8 : Int))) = false ∧ ((((List.getD a0 (Int.toNat a1) (0 : Int)) == (0 : Int)) = true → (True ∧ (True ∧ ((True) ∧ ((True) ∧ True) ∧ (.tup [.one (.sc (.int .i64 (0 : Int))), .one (.err (some (9 : Int)))] : Tm) = fds_At.R r ∧ ([] : List Box) = [])))) ∧ (((List.getD a0 (Int.toNat a1) (0 : Int)) == (0 : Int)) = false → (True ∧ (True ∧ (0 ≤ a1 ∧ a1 < ((8 : Nat) : Int)) ∧ ((Int.toNat a1) < 8) ∧ (True) ∧ (True ∧ ((True) ∧ ((True) ∧ True) ∧ (.tup [.one (.sc (.int .i64 (IntKind.wrap .i64 ((List.getD a0 (Int.toNat a1) (0 : Int)) - (1 : Int))))), .one (.err none)] : Tm) = fds_At.R r ∧ ([] : List Box) = [])))))))))))) ∧ ((decide (a1 ≥ (8 : Int))) = true → ((decide (a1 ≥ (8 : Int))) = true ∧ ((decide (a1 ≥ (8 : Int))) = true ∧ ((decide (a1 ≥ (8 : Int))) = true ∧ ((decide (a1 ≥ (8 : Int))) = true ∧ ((decide (a1 ≥ (8 : Int))) = true ∧ (true = true ∧ (True ∧ (True ∧ ((True) ∧ ((True) ∧ True) ∧ (.tup [.one (.sc (.int .i64 (0 : Int))), .one (.err (some (9 : Int)))] : Tm) = fds_At.R r ∧ ([] : List Box) = [])))))))))))))) ∧ ((decide (a1 < (0 : Int))) = true → ((decide (a1 < (0 : Int))) = true ∧ ((decide (a1 < (0 : Int))) = true ∧ (true = true ∧ (true = true ∧ (true = true ∧ (true = true ∧ (true = true ∧ (true = true ∧ (true = true ∧ (True ∧ (True ∧ ((True) ∧ ((True) ∧ True) ∧ (.tup [.one (.sc (.int .i64 (0 : Int))), .one (.err (some (9 : Int)))] : Tm) = fds_At.R r ∧ ([] : List Box) = [])))))))))))))))))) (by kernel_rfl) ?_)
  refine ⟨trivial, ?_⟩
  obtain ⟨t1, ht1, h⟩ := of_bind h
  refine ⟨t1, ⟨fds_Check.fun_ ht1, trivial⟩, ?_⟩
  refine ⟨trivial, ?_⟩
  refine ⟨fun b2 => ?_, fun b2 => ?_⟩
  · rw [if_pos (none_f (not_t b2))] at h
    refine ⟨trivial, ?_⟩
    refine ⟨trivial, ?_⟩
    obtain rfl := Option.some.inj h
    exact ⟨trivial, ⟨trivial, trivial⟩, rfl, rfl⟩
  · rw [if_neg (not_not_intro (none_t (not_f b2)))] at h
    refine ⟨trivial, ?_⟩
    refine ⟨fun b3 => ?_, fun b3 => ?_⟩
    · rw [if_neg (of_decide_eq_false b3)] at h
      refine ⟨b3, ?_⟩
      refine ⟨trivial, ?_⟩
      refine ⟨b3, ?_⟩
      refine ⟨fun b4 => ?_, fun b4 => ?_⟩
      · rw [if_neg (of_decide_eq_false b4)] at h
        refine ⟨b4, ?_⟩
        refine ⟨b4, ?_⟩
        obtain ⟨g9, h⟩ := of_guard h
        refine ⟨g9, ?_⟩
        refine ⟨b4, ?_⟩
        obtain ⟨g8, h⟩ := of_guard h
        refine ⟨g8, ?_⟩
        refine ⟨b4, ?_⟩
        refine ⟨trivial, ?_⟩
        refine ⟨b4, ?_⟩
        refine ⟨fun b5 => ?_, fun b5 => ?_⟩
        · rw [if_pos (beq_t b5)] at h
          refine ⟨trivial, ?_⟩
          refine ⟨trivial, ?_⟩
          obtain rfl := Option.some.inj h
          exact ⟨trivial, ⟨trivial, trivial⟩, rfl, rfl⟩
        · rw [if_neg (beq_f b5)] at h
          refine ⟨trivial, ?_⟩
          refine ⟨trivial, ?_⟩
          obtain ⟨g7, h⟩ := of_guard h
          refine ⟨g7, ?_⟩
          obtain ⟨g6, h⟩ := of_guard h
          refine ⟨g6, ?_⟩
          refine ⟨trivial, ?_⟩
          refine ⟨trivial, ?_⟩
          obtain rfl := Option.some.inj h
          exact ⟨trivial, ⟨trivial, trivial⟩, rfl, rfl⟩
      · rw [if_pos (of_decide_eq_true b4)] at h
        refine ⟨b4, ?_⟩
        refine ⟨b4, ?_⟩
        refine ⟨b4, ?_⟩
        refine ⟨b4, ?_⟩
        refine ⟨b4, ?_⟩
        refine ⟨rfl, ?_⟩
        refine ⟨trivial, ?_⟩
        refine ⟨trivial, ?_⟩
        obtain rfl := Option.some.inj h
        exact ⟨trivial, ⟨trivial, trivial⟩, rfl, rfl⟩
    · rw [if_pos (of_decide_eq_true b3)] at h
      refine ⟨b3, ?_⟩
      refine ⟨b3, ?_⟩
      refine ⟨rfl, ?_⟩
      refine ⟨rfl, ?_⟩
      refine ⟨rfl, ?_⟩
      refine ⟨rfl, ?_⟩
      refine ⟨rfl, ?_⟩
      refine ⟨rfl, ?_⟩
      refine ⟨rfl, ?_⟩
      refine ⟨trivial, ?_⟩
      refine ⟨trivial, ?_⟩
      obtain rfl := Option.some.inj h
      exact ⟨trivial, ⟨trivial, trivial⟩, rfl, rfl⟩
/-! halter/fds.Dup -/
def fds_Dup.f (a0 : (List Int)) (a1 : Int) : Option (Int × (List Int) × (Option Int)) :=
  (fds_At.f a0 a1).bind fun t1 =>
  if ¬ (t1.2 = none) then
    some ((0 : Int), (List.replicate 8 (0 : Int)), t1.2)
  else
    (fds_Put.f a0 t1.1).bind fun t3 =>
    some (t3.1, t3.2.1, t3.2.2)
def fds_Dup.R (r : Int × (List Int) × (Option Int)) : Tm := .tup [.one (.sc (.int .i64 r.1)), .agg [.row 8 (.int .i64) r.2.1], .one (.err r.2.2)]
theorem fds_Dup.fun_ {a0 : (List Int)} {a1 : Int} {r : Int × (List Int) × (Option Int)} (h : fds_Dup.f a0 a1 = some r) : Fun cfg 12 [.agg [.row 8 (.int .i64) a0], .one (.sc (.int .i64 a1))] [] (fds_Dup.R r) [] := by
  unfold fds_Dup.f at h
  refine fun_of_run cfg_ok (f := 12) (fn := Tryd.f12) Tryd.func12 rfl (by kernel_rfl) (rs := [.tmp 4, .cell 5 24, .tmp 6]) rfl (nt := 25) rfl (l := fin) (k := (.call true [] (Int × (Option Int)) (fun t1 => fds_At.R t1) (fun t1 => (.br (.adj [] (.adj [] (.adj [.drop 0] .nil))) (.call true [] (Int × (List Int) × (Option Int)) (fun t3 => fds_Put.R t3) (fun t3 => (.adj [] (.adj [.drop 0] .nil)))))))) (to_goal (q := (True) ∧ (∃ t1 : Int × (Option Int), (Fun cfg 8 [.agg [.row 8 (.int .i64) a0], .one (.sc (.int .i64 a1))] [] (fds_At.R t1) [] ∧ True) ∧ (True) ∧ (((!(Option.isNone t1.2)) = true → (True ∧ (True) ∧ (True ∧ (((True) ∧ True) ∧ ((True) ∧ True) ∧ (.tup [.one (.sc (.int .i64 (0 : Int))), .agg [.row 8 (.int .i64) (List.replicate 8 (0 : Int))], .one (.err t1.2)] : Tm) = fds_Dup.R r ∧ ([] : List Box) = [])))) ∧ ((!(Option.isNone t1.2)) = false → (True) ∧ (∃ t3 : Int × (List Int) × (Option Int), (Fun cfg 6 [.agg [.row 8 (.int .i64) a0], .one (.sc (.int .i64 t1.1))] [] (fds_Put.R t3) [] ∧ True) ∧ (True) ∧ (True ∧ (((True) ∧ True) ∧ ((True) ∧ True) ∧ (.tup [.one (.sc (.int .i64 t3.1)), .agg [.row 8 (.int .i64) t3.2.1], .one (.err t3.2.2)] : Tm) = fds_Dup.R r ∧ ([] : List Box) = []))))))) (by kernel_rfl) ?_)
  refine ⟨trivial, ?_⟩
  obtain ⟨t1, ht1, h⟩ := of_bind h
  refine ⟨t1, ⟨fds_At.fun_ ht1, trivial⟩, ?_⟩
  refine ⟨trivial, ?_⟩
  refine ⟨fun b2 => ?_, fun b2 => ?_⟩
  · rw [if_pos (none_f (not_t b2))] at h
    refine ⟨trivial, ?_⟩
    refine ⟨trivial, ?_⟩
    refine ⟨trivial, ?_⟩
    obtain rfl := Option.some.inj h
    exact ⟨⟨trivial, trivial⟩, ⟨trivial, trivial⟩, rfl, rfl⟩
  · rw [if_neg (not_not_intro (none_t (not_f b2)))] at h
    refine ⟨trivial, ?_⟩
    obtain ⟨t3, ht3, h⟩ := of_bind h
    refine ⟨t3, ⟨fds_Put.fun_ ht3, trivial⟩, ?_⟩
    refine ⟨trivial, ?_⟩
    refine ⟨trivial, ?_⟩
    obtain rfl := Option.some.inj h
    exact ⟨⟨trivial, trivial⟩, ⟨trivial, trivial⟩, rfl, rfl⟩
/-! halter/fds.Drop -/
def fds_Drop.f (a0 : (List Int)) (a1 : Int) : Option (Int × (List Int) × (Option Int)) :=
  (fds_At.f a0 a1).bind fun t1 =>
  if ¬ (t1.2 = none) then
    some ((0 : Int), (List.replicate 8 (0 : Int)), t1.2)
  else
    if 0 ≤ a1 ∧ a1 < ((8 : Nat) : Int) then
      if (Int.toNat a1) < 8 then
        some (t1.1, (List.set a0 (Int.toNat a1) (0 : Int)), none)
      else none
    else none
def fds_Drop.R (r : Int × (List Int) × (Option Int)) : Tm := .tup [.one (.sc (.int .i64 r.1)), .agg [.row 8 (.int .i64) r.2.1], .one (.err r.2.2)]
theorem fds_Drop.fun_ {a0 : (List Int)} {a1 : Int} {r : Int × (List Int) × (Option Int)} (h : fds_Drop.f a0 a1 = some r) : Fun cfg 10 [.agg [.row 8 (.int .i64) a0], .one (.sc (.int .i64 a1))] [] (fds_Drop.R r) [] := by
  unfold fds_Drop.f at h
  refine fun_of_run cfg_ok (f := 10) (fn := Tryd.f10) Tryd.func10 rfl (by kernel_rfl) (rs := [.tmp 4, .cell 5 24, .tmp 6]) rfl (nt := 24) rfl (l := fin) (k := (.call true [] (Int × (Option Int)) (fun t1 => fds_At.R t1) (fun t1 => (.br (.adj [] (.adj [] (.adj [.drop 0] .nil))) (.dr [(0, ⟨none, .no⟩), (1, ⟨none, .no⟩), (2, ⟨none, .no⟩), (3, ⟨none, .no⟩), (4, ⟨none, .no⟩)] (.adj [] (.adj [.drop 0] .nil))))))) (to_goal (q := (True) ∧ (∃ t1 : Int × (Option Int), (Fun cfg 8 [.agg [.row 8 (.int .i64) a0], .one (.sc (.int .i64 a1))] [] (fds_At.R t1) [] ∧ True) ∧ (True) ∧ (((!(Option.isNone t1.2)) = true → (True ∧ (True) ∧ (True ∧ (((True) ∧ True) ∧ ((True) ∧ True) ∧ (.tup [.one (.sc (.int .i64 (0 : Int))), .agg [.row 8 (.int .i64) (List.replicate 8 (0 : Int))], .one (.err t1.2)] : Tm) = fds_Drop.R r ∧ ([] : List Box) = [])))) ∧ ((!(Option.isNone t1.2)) = false → (0 ≤ a1 ∧ a1 < ((8 : Nat) : Int)) ∧ ((Int.toNat a1) < 8) ∧ (True) ∧ (True) ∧ (True ∧ (((True) ∧ True) ∧ ((True) ∧ True) ∧ (.tup [.one (.sc (.int .i64 t1.1)), .agg [.row 8 (.int .i64) (List.set a0 (Int.toNat a1) (0 : Int))], .one (.err none)] : Tm) = fds_Drop.R r ∧ ([] : List Box) = [])))))) (by kernel_rfl) ?_)
  refine ⟨trivial, ?_⟩
  obtain ⟨t1, ht1, h⟩ := of_bind h
  refine ⟨t1, ⟨fds_At.fun_ ht1, trivial⟩, ?_⟩
  refine ⟨trivial, ?_⟩
  refine ⟨fun b2 => ?_, fun b2 => ?_⟩
  · rw [if_pos (none_f (not_t b2))] at h
    refine ⟨trivial, ?_⟩
    refine ⟨trivial, ?_⟩
    refine ⟨trivial, ?_⟩
    obtain rfl := Option.some.inj h
    exact ⟨⟨trivial, trivial⟩, ⟨trivial, trivial⟩, rfl, rfl⟩
  · rw [if_neg (not_not_intro (none_t (not_f b2)))] at h
    obtain ⟨g4, h⟩ := of_guard h
    refine ⟨g4, ?_⟩
    obtain ⟨g3, h⟩ := of_guard h
    refine ⟨g3, ?_⟩
    refine ⟨trivial, trivial, ?_⟩
    refine ⟨trivial, ?_⟩
    obtain rfl := Option.some.inj h
    exact ⟨⟨trivial, trivial⟩, ⟨trivial, trivial⟩, rfl, rfl⟩
/-! halter/halterlaw20.ints -/
def halterlaw20_ints.l0 (a0 : (List Int)) (a1 : (List Int)) : Nat → Int → Option ((Unit) ⊕ (Unit))
  | 0, _ => none
  | n + 1, x2 =>
    if x2 < (((List.length a0) : Nat) : Int) then
      if 0 ≤ x2 ∧ x2 < (((List.length a0) : Nat) : Int) then
        if 0 ≤ x2 ∧ x2 < (((List.length a1) : Nat) : Int) then
          if ¬ (List.getD a0 (Int.toNat x2) (0 : Int)) = (List.getD a1 (Int.toNat x2) (0 : Int)) then
            some (.inr ())
          else
            halterlaw20_ints.l0 a0 a1 n (IntKind.wrap .i64 (x2 + (1 : Int)))
        else none
      else none
    else
      some (.inl ())
def halterlaw20_ints.l0_S (a0 : (List Int)) (a1 : (List Int)) (x2 : Int) : St := ⟨[.v (.one (.fs (.int .i64) a0 false)), .v (.one (.fs (.int .i64) a1 false)), .any, .any, .any, .v (.one (.sc (.int .i64 x2))), .any, .any, .any, .any, .any, .any, .any, .any, .any, .any, .any, .any, .any, .any, .any, .any, .any, .any, .any, .any], [], 0⟩
def halterlaw20_ints.l0_Q (a0 : (List Int)) (a1 : (List Int)) : (Unit) ⊕ (Unit) → Exit → St → Prop
  | .inl t => fun e s => e = (.exit 0) ∧ s = ⟨[.any, .any, .any, .any, .any, .any, .any, .any, .any, .any, .any, .any, .any, .any, .any, .any, .any, .any, .any, .any, .any, .any, .any, .any, .any, .any], [], 0⟩
  | .inr t => fun e s => e = .ret ∧ s = ⟨[.any, .any, .any, .any, .v (.one (.sc (.bool false))), .any, .any, .any, .any, .any, .any, .any, .any, .any, .any, .any, .any, .any, .any, .any, .any, .any, .any, .any, .any, .any], [], 0⟩
theorem halterlaw20_ints.l0_ok (a0 : (List Int)) (a1 : (List Int)) : ∀ (n : Nat) (x2 : Int) (r : (Unit) ⊕ (Unit)), halterlaw20_ints.l0 a0 a1 n x2 = some r → TripN cfg (cpath (Tryd.f17.body.getD .skip) [1, 1, 0, 1, 0, 0]) n (halterlaw20_ints.l0_S a0 a1 x2) (halterlaw20_ints.l0_Q a0 a1 r)
  | 0, _, r, h => by cases h
  | n + 1, x2, r, h => by
    rw [halterlaw20_ints.l0] at h
    refine TripN.of_run cfg_ok (k := (.br (.dr [(0, ⟨none, .no⟩), (1, ⟨none, .no⟩), (2, ⟨none, .no⟩), (3, ⟨none, .no⟩), (4, ⟨none, .no⟩), (5, ⟨none, .no⟩), (6, ⟨none, .no⟩), (7, ⟨none, .no⟩), (8, ⟨none, .no⟩)] (.br (.adj [] (.adj [.keep [4], .drop 0] .nil)) (.adj [] (.adj [] (.adj [.keep [0, 1, 5], .drop 0] .nil))))) (.adj [.keep [], .drop 0] .nil))) (to_goal (q := (True) ∧ (True) ∧ (((decide (x2 < (((List.length a0) : Nat) : Int))) = true → (0 ≤ x2 ∧ x2 < (((List.length a0) : Nat) : Int)) ∧ (True) ∧ (0 ≤ x2 ∧ x2 < (((List.length a1) : Nat) : Int)) ∧ (True) ∧ (True) ∧ ((((List.getD a0 (Int.toNat x2) (0 : Int)) != (List.getD a1 (Int.toNat x2) (0 : Int))) = true → (True ∧ (((True) ∧ (True) ∧ True) ∧ halterlaw20_ints.l0_Q a0 a1 r .ret ⟨[.any, .any, .any, .any, .v (.one (.sc (.bool false))), .any, .any, .any, .any, .any, .any, .any, .any, .any, .any, .any, .any, .any, .any, .any, .any, .any, .any, .any, .any, .any], [], 0⟩))) ∧ (((List.getD a0 (Int.toNat x2) (0 : Int)) != (List.getD a1 (Int.toNat x2) (0 : Int))) = false → (True ∧ (True ∧ (True) ∧ (((True) ∧ (True) ∧ True) ∧ TripN cfg (cpath (Tryd.f17.body.getD .skip) [1, 1, 0, 1, 0, 0]) n (halterlaw20_ints.l0_S a0 a1 (IntKind.wrap .i64 (x2 + (1 : Int)))) (halterlaw20_ints.l0_Q a0 a1 r))))))) ∧ ((decide (x2 < (((List.length a0) : Nat) : Int))) = false → (((True) ∧ (True) ∧ True) ∧ halterlaw20_ints.l0_Q a0 a1 r (.exit 0) ⟨[.any, .any, .any, .any, .any, .any, .any, .any, .any, .any, .any, .any, .any, .any, .any, .any, .any, .any, .any, .any, .any, .any, .any, .any, .any, .any], [], 0⟩)))) (by kernel_rfl) ?_)
    refine ⟨trivial, ?_⟩
    refine ⟨trivial, ?_⟩
    refine ⟨fun b8 => ?_, fun b8 => ?_⟩
    · rw [if_pos (of_decide_eq_true b8)] at h
      obtain ⟨g9, h⟩ := of_guard h
      obtain ⟨g10, h⟩ := of_guard h
      refine ⟨g9, trivial, g10, trivial, trivial, ?_⟩
      refine ⟨fun b11 => ?_, fun b11 => ?_⟩
      · rw [if_pos (bne_t b11)] at h
        refine ⟨trivial, ?_⟩
        obtain rfl := Option.some.inj h
        exact ⟨⟨trivial, trivial, trivial⟩, rfl, rfl⟩
      · rw [if_neg (not_not_intro (bne_f b11))] at h
        refine ⟨trivial, ?_⟩
        refine ⟨trivial, ?_⟩
        refine ⟨trivial, ?_⟩
        exact ⟨⟨trivial, trivial, trivial⟩, halterlaw20_ints.l0_ok a0 a1 n (IntKind.wrap .i64 (x2 + (1 : Int))) r h⟩
    · rw [if_neg (of_decide_eq_false b8)] at h
      obtain rfl := Option.some.inj h
      exact ⟨⟨trivial, trivial, trivial⟩, rfl, rfl⟩
def halterlaw20_ints.f (a0 : (List Int)) (a1 : (List Int)) : Option Bool :=
  if ¬ (((List.length a0) : Nat) : Int) = (((List.length a1) : Nat) : Int) then
    some false
  else
    (halterlaw20_ints.l0 a0 a1 FUEL (0 : Int)).bind fun t7 =>
    match t7 with
    | .inl t12 =>
      some true
    | .inr t13 =>
      some false
def halterlaw20_ints.R (r : Bool) : Tm := .v (.one (.sc (.bool r)))
theorem halterlaw20_ints.fun_ {a0 : (List Int)} {a1 : (List Int)} {r : Bool} (h : halterlaw20_ints.f a0 a1 = some r) : Fun cfg 17 [.one (.fs (.int .i64) a0 false), .one (.fs (.int .i64) a1 false)] [] (halterlaw20_ints.R r) [] := by
  unfold halterlaw20_ints.f at h
  refine fun_of_run cfg_ok (f := 17) (fn := Tryd.f17) Tryd.func17 rfl (by kernel_rfl) (rs := [.tmp 4]) rfl (nt := 26) rfl (l := fin) (k := (.br (.adj [] (.adj [] (.adj [] .nil))) (.adj [] (.adj [] (.adj [.keep [0, 1, 5]] (.alt (.sub (Unit) (fun _ => (.exit 0)) (fun t12 => ⟨[.any, .any, .any, .any, .any, .any, .any, .any, .any, .any, .any, .any, .any, .any, .any, .any, .any, .any, .any, .any, .any, .any, .any, .any, .any, .any], [], 0⟩) (fun t12 => (.adj [] (.adj [] (.adj [] .nil))))) (.sub (Unit) (fun _ => .ret) (fun t13 => ⟨[.any, .any, .any, .any, .v (.one (.sc (.bool false))), .any, .any, .any, .any, .any, .any, .any, .any, .any, .any, .any, .any, .any, .any, .any, .any, .any, .any, .any, .any, .any], [], 0⟩) (fun t13 => (.adj [] .nil))))))))) (to_goal (q := (True) ∧ (True) ∧ (True) ∧ ((((((List.length a0) : Nat) : Int) != (((List.length a1) : Nat) : Int)) = true → (True ∧ (True ∧ ((True) ∧ (True) ∧ (.v (.one (.sc (.bool false))) : Tm) = halterlaw20_ints.R r ∧ ([] : List Box) = [])))) ∧ (((((List.length a0) : Nat) : Int) != (((List.length a1) : Nat) : Int)) = false → (True ∧ (True ∧ (((True) ∧ True) ∧ ((∃ t12 : Unit, Trip cfg (.loop (cpath (Tryd.f17.body.getD .skip) [1, 1, 0, 1, 0, 0])) ⟨[.v (.one (.fs (.int .i64) a0 false)), .v (.one (.fs (.int .i64) a1 false)), .any, .any, .any, .v (.one (.sc (.int .i64 (0 : Int)))), .any, .any, .any, .any, .any, .any, .any, .any, .any, .any, .any, .any, .any, .any, .any, .any, .any, .any, .any, .any], [], 0⟩ (fun e s => e = (.exit 0) ∧ s = ⟨[.any, .any, .any, .any, .any, .any, .any, .any, .any, .any, .any, .any, .any, .any, .any, .any, .any, .any, .any, .any, .any, .any, .any, .any, .any, .any], [], 0⟩) ∧ (True ∧ (True ∧ ((True) ∧ (True) ∧ (.v (.one (.sc (.bool true))) : Tm) = halterlaw20_ints.R r ∧ ([] : List Box) = [])))) ∨ (∃ t13 : Unit, Trip cfg (.loop (cpath (Tryd.f17.body.getD .skip) [1, 1, 0, 1, 0, 0])) ⟨[.v (.one (.fs (.int .i64) a0 false)), .v (.one (.fs (.int .i64) a1 false)), .any, .any, .any, .v (.one (.sc (.int .i64 (0 : Int)))), .any, .any, .any, .any, .any, .any, .any, .any, .any, .any, .any, .any, .any, .any, .any, .any, .any, .any, .any, .any], [], 0⟩ (fun e s => e = .ret ∧ s = ⟨[.any, .any, .any, .any, .v (.one (.sc (.bool false))), .any, .any, .any, .any, .any, .any, .any, .any, .any, .any, .any, .any, .any, .any, .any, .any, .any, .any, .any, .any, .any], [], 0⟩) ∧ ((True) ∧ (True) ∧ (.v (.one (.sc (.bool false))) : Tm) = halterlaw20_ints.R r ∧ ([] : List Box) = []))))))))) (by kernel_rfl) ?_)
  refine ⟨trivial, ?_⟩
  refine ⟨trivial, ?_⟩
  refine ⟨trivial, ?_⟩
  refine ⟨fun b1 => ?_, fun b1 => ?_⟩
  · rw [if_pos (bne_t b1)] at h
    refine ⟨trivial, ?_⟩
    refine ⟨trivial, ?_⟩
    obtain rfl := Option.some.inj h
    exact ⟨trivial, trivial, rfl, rfl⟩
  · rw [if_neg (not_not_intro (bne_f b1))] at h
    refine ⟨trivial, ?_⟩
    refine ⟨trivial, ?_⟩
    obtain ⟨t7, ht7, h⟩ := of_bind h
    refine ⟨⟨trivial, trivial⟩, ?_⟩
    rcases t7 with t12 | t13
    · dsimp only at h
      left
      refine ⟨t12, Trip.loop FUEL (halterlaw20_ints.l0_ok a0 a1 FUEL (0 : Int) (.inl t12) ht7), ?_⟩
      refine ⟨trivial, ?_⟩
      refine ⟨trivial, ?_⟩
      obtain rfl := Option.some.inj h
      exact ⟨trivial, trivial, rfl, rfl⟩
    · dsimp only at h
      right
      refine ⟨t13, Trip.loop FUEL (halterlaw20_ints.l0_ok a0 a1 FUEL (0 : Int) (.inr t13) ht7), ?_⟩
      obtain rfl := Option.some.inj h
      exact ⟨trivial, trivial, rfl, rfl⟩
/-! halter/halterlaw20.sure -/
def halterlaw20_sure.f : Option Bool :=
  (fds_Put.f (List.replicate 8 (0 : Int)) (5 : Int)).bind fun t1 =>
  (fds_Dup.f t1.2.1 t1.1).bind fun t2 =>
  (fds_At.f t2.2.1 t2.1).bind fun t3 =>
  (fds_Drop.f t2.2.1 (0 : Int)).bind fun t4 =>
  (fds_At.f t4.2.1 (0 : Int)).bind fun t5 =>
  if t1.2.2 = none then
    if t2.2.2 = none then
      if t3.2 = none then
        if t4.2.2 = none then
          if t1.1 = (0 : Int) then
            if t2.1 = (1 : Int) then
              if t3.1 = (5 : Int) then
                (num.f t5.2).bind fun t13 =>
                if t13 = (9 : Int) then
                  (fds_Free.f t4.2.1).bind fun t15 =>
                  if t15 = (7 : Int) then
                    (fds_Files.f t2.2.1).bind fun t17 =>
                    (halterlaw20_ints.f t17 [(5 : Int), (5 : Int)]).bind fun t18 =>
                    some t18
                  else
                    some false
                else
                  some false
              else
                some false
            else
              some false
          else
            some false
        else
          some false
      else
        some false
    else
      some false
  else
    some false
def halterlaw20_sure.R (r : Bool) : Tm := .v (.one (.sc (.bool r)))
theorem halterlaw20_sure.fun_ {r : Bool} (h : halterlaw20_sure.f = some r) : Fun cfg 21 [] [] (halterlaw20_sure.R r) [] := by
  unfold halterlaw20_sure.f at h
  refine fun_of_run cfg_ok (f := 21) (fn := Tryd.f21) Tryd.func21 rfl (by kernel_rfl) (rs := [.tmp 0]) rfl (nt := 86) rfl (l := fin) (k := (.call true [] (Int × (List Int) × (Option Int)) (fun t1 => fds_Put.R t1) (fun t1 => (.call true [] (Int × (List Int) × (Option Int)) (fun t2 => fds_Dup.R t2) (fun t2 => (.call true [] (Int × (Option Int)) (fun t3 => fds_At.R t3) (fun t3 => (.call true [] (Int × (List Int) × (Option Int)) (fun t4 => fds_Drop.R t4) (fun t4 => (.call true [] (Int × (Option Int)) (fun t5 => fds_At.R t5) (fun t5 => (.br (.one true (.one true (.br (.one true (.one true (.br (.one true (.one true (.br (.one true (.one true (.br (.one true (.one true (.br (.one true (.one true (.br (.one true (.call true [] (Int) (fun t13 => num.R t13) (fun t13 => (.one true (.one true (.br (.one true (.call true [] (Int) (fun t15 => fds_Free.R t15) (fun t15 => (.one true (.one true (.br (.one true (.call true [] ((List Int)) (fun t17 => fds_Files.R t17) (fun t17 => (.one true (.one true (.call true [] (Bool) (fun t18 => halterlaw20_ints.R t18) (fun t18 => (.one true (.adj [] (.adj [.drop 0] .nil)))))))))) (.one false (.one false (.one false (.one false (.adj [] (.adj [.drop 0] .nil)))))))))))) (.one false (.one false (.one false (.one false (.one false (.one false (.one false (.one false (.adj [] (.adj [.drop 0] .nil)))))))))))))))) (.one false (.one false (.one false (.one false (.one false (.one false (.one false (.one false (.one false (.one false (.one false (.one false (.adj [] (.adj [.drop 0] .nil))))))))))))))))) (.one false (.one false (.one false (.one false (.one false (.one false (.one false (.one false (.one false (.one false (.one false (.one false (.one false (.one false (.one false (.adj [] (.adj [.drop 0] .nil)))))))))))))))))))) (.one false (.one false (.one false (.one false (.one false (.one false (.one false (.one false (.one false (.one false (.one false (.one false (.one false (.one false (.one false (.one false (.one false (.one false (.adj [] (.adj [.drop 0] .nil))))))))))))))))))))))) (.one false (.one false (.one false (.one false (.one false (.one false (.one false (.one false (.one false (.one false (.one false (.one false (.one false (.one false (.one false (.one false (.one false (.one false (.one false (.one false (.one false (.adj [] (.adj [.drop 0] .nil)))))))))))))))))))))))))) (.one false (.one false (.one false (.one false (.one false (.one false (.one false (.one false (.one false (.one false (.one false (.one false (.one false (.one false (.one false (.one false (.one false (.one false (.one false (.one false (.one false (.one false (.one false (.one false (.adj [] (.adj [.drop 0] .nil))))))))))))))))))))))))))))) (.one false (.one false (.one false (.one false (.one false (.one false (.one false (.one false (.one false (.one false (.one false (.one false (.one false (.one false (.one false (.one false (.one false (.one false (.one false (.one false (.one false (.one false (.one false (.one false (.one false (.one false (.one false (.adj [] (.adj [.drop 0] .nil)))))))))))))))))))))))))))))))) (.one false (.one false (.one false (.one false (.one false (.one false (.one false (.one false (.one false (.one false (.one false (.one false (.one false (.one false (.one false (.one false (.one false (.one false (.one false (.one false (.one false (.one false (.one false (.one false (.one false (.one false (.one false (.one false (.one false (.one false (.adj [] (.adj [.drop 0] .nil)))))))))))))))))))))))))))))))))))))))))))) (to_goal (q := (∃ t1 : Int × (List Int) × (Option Int), (Fun cfg 6 [.agg [.row 8 (.int .i64) (List.replicate 8 (0 : Int))], .one (.sc (.int .i64 (5 : Int)))] [] (fds_Put.R t1) [] ∧ True) ∧ (True) ∧ (True) ∧ (∃ t2 : Int × (List Int) × (Option Int), (Fun cfg 12 [.agg [.row 8 (.int .i64) t1.2.1], .one (.sc (.int .i64 t1.1))] [] (fds_Dup.R t2) [] ∧ True) ∧ (True) ∧ (True) ∧ (∃ t3 : Int × (Option Int), (Fun cfg 8 [.agg [.row 8 (.int .i64) t2.2.1], .one (.sc (.int .i64 t2.1))] [] (fds_At.R t3) [] ∧ True) ∧ (True) ∧ (∃ t4 : Int × (List Int) × (Option Int), (Fun cfg 10 [.agg [.row 8 (.int .i64) t2.2.1], .one (.sc (.int .i64 (0 : Int)))] [] (fds_Drop.R t4) [] ∧ True) ∧ (True) ∧ (True) ∧ (∃ t5 : Int × (Option Int), (Fun cfg 8 [.agg [.row 8 (.int .i64) t4.2.1], .one (.sc (.int .i64 (0 : Int)))] [] (fds_At.R t5) [] ∧ True) ∧ (True) ∧ (((Option.isNone t1.2.2) = true → ((Option.isNone t1.2.2) = true ∧ (True) ∧ ((Option.isNone t1.2.2) = true ∧ (((Option.isNone t2.2.2) = true → ((Option.isNone t2.2.2) = true ∧ (True) ∧ ((Option.isNone t2.2.2) = true ∧ (((Option.isNone t3.2) = true → ((Option.isNone t3.2) = true ∧ (True) ∧ ((Option.isNone t3.2) = true ∧ (((Option.isNone t4.2.2) = true → ((Option.isNone t4.2.2) = true ∧ (True) ∧ ((Option.isNone t4.2.2) = true ∧ (((t1.1 == (0 : Int)) = true → ((t1.1 == (0 : Int)) = true ∧ (True) ∧ ((t1.1 == (0 : Int)) = true ∧ (((t2.1 == (1 : Int)) = true → ((t2.1 == (1 : Int)) = true ∧ (True) ∧ ((t2.1 == (1 : Int)) = true ∧ (((t3.1 == (5 : Int)) = true → ((t3.1 == (5 : Int)) = true ∧ (∃ t13 : Int, (Fun cfg 16 [.one (.err t5.2)] [] (num.R t13) [] ∧ True) ∧ ((t3.1 == (5 : Int)) = true ∧ (True) ∧ ((t3.1 == (5 : Int)) = true ∧ (((t13 == (9 : Int)) = true → (True) ∧ ((t13 == (9 : Int)) = true ∧ (∃ t15 : Int, (Fun cfg 19 [.agg [.row 8 (.int .i64) t4.2.1]] [] (fds_Free.R t15) [] ∧ True) ∧ ((t13 == (9 : Int)) = true ∧ (True) ∧ ((t13 == (9 : Int)) = true ∧ (((t15 == (7 : Int)) = true → (True) ∧ ((t15 == (7 : Int)) = true ∧ (∃ t17 : (List Int), (Fun cfg 18 [.agg [.row 8 (.int .i64) t2.2.1]] [] (fds_Files.R t17) [] ∧ True) ∧ ((t15 == (7 : Int)) = true ∧ ((t15 == (7 : Int)) = true ∧ (∃ t18 : Bool, ((0 = 0 ∧ 2 = 2) ∧ Fun cfg 17 [.one (.fs (.int .i64) t17 false), .one (.fs (.int .i64) [(5 : Int), (5 : Int)] false)] [] (halterlaw20_ints.R t18) [] ∧ True) ∧ ((t15 == (7 : Int)) = true ∧ (True ∧ ((True) ∧ ((True) ∧ True) ∧ (.v (.one (.sc (.bool t18))) : Tm) = halterlaw20_sure.R r ∧ ([] : List Box) = []))))))))) ∧ ((t15 == (7 : Int)) = false → ((t15 == (7 : Int)) = false ∧ ((t15 == (7 : Int)) = false ∧ ((t15 == (7 : Int)) = false ∧ ((t15 == (7 : Int)) = false ∧ (True ∧ ((True) ∧ ((True) ∧ True) ∧ (.v (.one (.sc (.bool false))) : Tm) = halterlaw20_sure.R r ∧ ([] : List Box) = []))))))))))))) ∧ ((t13 == (9 : Int)) = false → ((t13 == (9 : Int)) = false ∧ ((t13 == (9 : Int)) = false ∧ ((t13 == (9 : Int)) = false ∧ (false = false ∧ (false = false ∧ (false = false ∧ (false = false ∧ (false = false ∧ (True ∧ ((True) ∧ ((True) ∧ True) ∧ (.v (.one (.sc (.bool false))) : Tm) = halterlaw20_sure.R r ∧ ([] : List Box) = []))))))))))))))))) ∧ ((t3.1 == (5 : Int)) = false → ((t3.1 == (5 : Int)) = false ∧ ((t3.1 == (5 : Int)) = false ∧ ((t3.1 == (5 : Int)) = false ∧ (false = false ∧ (false = false ∧ (false = false ∧ (false = false ∧ (false = false ∧ (false = false ∧ (false = false ∧ (false = false ∧ (false = false ∧ (True ∧ ((True) ∧ ((True) ∧ True) ∧ (.v (.one (.sc (.bool false))) : Tm) = halterlaw20_sure.R r ∧ ([] : List Box) = []))))))))))))))))))) ∧ ((t2.1 == (1 : Int)) = false → ((t2.1 == (1 : Int)) = false ∧ ((t2.1 == (1 : Int)) = false ∧ (false = false ∧ (false = false ∧ (false = false ∧ (false = false ∧ (false = false ∧ (false = false ∧ (false = false ∧ (false = false ∧ (false = false ∧ (false = false ∧ (false = false ∧ (false = false ∧ (false = false ∧ (True ∧ ((True) ∧ ((True) ∧ True) ∧ (.v (.one (.sc (.bool false))) : Tm) = halterlaw20_sure.R r ∧ ([] : List Box) = [])))))))))))))))))))))) ∧ ((t1.1 == (0 : Int)) = false → ((t1.1 == (0 : Int)) = false ∧ ((t1.1 == (0 : Int)) = false ∧ (false = false ∧ (false = false ∧ (false = false ∧ (false = false ∧ (false = false ∧ (false = false ∧ (false = false ∧ (false = false ∧ (false = false ∧ (false = false ∧ (false = false ∧ (false = false ∧ (false = false ∧ (false = false ∧ (false = false ∧ (false = false ∧ (True ∧ ((True) ∧ ((True) ∧ True) ∧ (.v (.one (.sc (.bool false))) : Tm) = halterlaw20_sure.R r ∧ ([] : List Box) = []))))))))))))))))))))))))) ∧ ((Option.isNone t4.2.2) = false → ((Option.isNone t4.2.2) = false ∧ ((Option.isNone t4.2.2) = false ∧ (false = false ∧ (false = false ∧ (false = false ∧ (false = false ∧ (false = false ∧ (false = false ∧ (false = false ∧ (false = false ∧ (false = false ∧ (false = false ∧ (false = false ∧ (false = false ∧ (false = false ∧ (false = false ∧ (false = false ∧ (false = false ∧ (false = false ∧ (false = false ∧ (false = false ∧ (True ∧ ((True) ∧ ((True) ∧ True) ∧ (.v (.one (.sc (.bool false))) : Tm) = halterlaw20_sure.R r ∧ ([] : List Box) = [])))))))))))))))))))))))))))) ∧ ((Option.isNone t3.2) = false → ((Option.isNone t3.2) = false ∧ ((Option.isNone t3.2) = false ∧ (false = false ∧ (false = false ∧ (false = false ∧ (false = false ∧ (false = false ∧ (false = false ∧ (false = false ∧ (false = false ∧ (false = false ∧ (false = false ∧ (false = false ∧ (false = false ∧ (false = false ∧ (false = false ∧ (false = false ∧ (false = false ∧ (false = false ∧ (false = false ∧ (false = false ∧ (false = false ∧ (false = false ∧ (false = false ∧ (True ∧ ((True) ∧ ((True) ∧ True) ∧ (.v (.one (.sc (.bool false))) : Tm) = halterlaw20_sure.R r ∧ ([] : List Box) = []))))))))))))))))))))))))))))))) ∧ ((Option.isNone t2.2.2) = false → ((Option.isNone t2.2.2) = false ∧ ((Option.isNone t2.2.2) = false ∧ (false = false ∧ (false = false ∧ (false = false ∧ (false = false ∧ (false = false ∧ (false = false ∧ (false = false ∧ (false = false ∧ (false = false ∧ (false = false ∧ (false = false ∧ (false = false ∧ (false = false ∧ (false = false ∧ (false = false ∧ (false = false ∧ (false = false ∧ (false = false ∧ (false = false ∧ (false = false ∧ (false = false ∧ (false = false ∧ (false = false ∧ (false = false ∧ (false = false ∧ (True ∧ ((True) ∧ ((True) ∧ True) ∧ (.v (.one (.sc (.bool false))) : Tm) = halterlaw20_sure.R r ∧ ([] : List Box) = [])))))))))))))))))))))))))))))))))) ∧ ((Option.isNone t1.2.2) = false → ((Option.isNone t1.2.2) = false ∧ ((Option.isNone t1.2.2) = false ∧ (false = false ∧ (false = false ∧ (false = false ∧ (false = false ∧ (false = false ∧ (false = false ∧ (false = false ∧ (false = false ∧ (false = false ∧ (false = false ∧ (false = false ∧ (false = false ∧ (false = false ∧ (false = false ∧ (false = false ∧ (false = false ∧ (false = false ∧ (false = false ∧ (false = false ∧ (false = false ∧ (false = false ∧ (false = false ∧ (false = false ∧ (false = false ∧ (false = false ∧ (false = false ∧ (false = false ∧ (false = false ∧ (True ∧ ((True) ∧ ((True) ∧ True) ∧ (.v (.one (.sc (.bool false))) : Tm) = halterlaw20_sure.R r ∧ ([] : List Box) = [])))))))))))))))))))))))))))))))))))))))) (by kernel_rfl) ?_)
  obtain ⟨t1, ht1, h⟩ := of_bind h
  refine ⟨t1, ⟨fds_Put.fun_ ht1, trivial⟩, ?_⟩
  refine ⟨trivial, ?_⟩
  refine ⟨trivial, ?_⟩
  obtain ⟨t2, ht2, h⟩ := of_bind h
  refine ⟨t2, ⟨fds_Dup.fun_ ht2, trivial⟩, ?_⟩
  refine ⟨trivial, ?_⟩
  refine ⟨trivial, ?_⟩
  obtain ⟨t3, ht3, h⟩ := of_bind h
  refine ⟨t3, ⟨fds_At.fun_ ht3, trivial⟩, ?_⟩
  refine ⟨trivial, ?_⟩
  obtain ⟨t4, ht4, h⟩ := of_bind h
  refine ⟨t4, ⟨fds_Drop.fun_ ht4, trivial⟩, ?_⟩
  refine ⟨trivial, ?_⟩
  refine ⟨trivial, ?_⟩
  obtain ⟨t5, ht5, h⟩ := of_bind h
  refine ⟨t5, ⟨fds_At.fun_ ht5, trivial⟩, ?_⟩
  refine ⟨trivial, ?_⟩
  refine ⟨fun b6 => ?_, fun b6 => ?_⟩
  · rw [if_pos (none_t b6)] at h
    refine ⟨b6, ?_⟩
    refine ⟨trivial, ?_⟩
    refine ⟨b6, ?_⟩
    refine ⟨fun b7 => ?_, fun b7 => ?_⟩
    · rw [if_pos (none_t b7)] at h
      refine ⟨b7, ?_⟩
      refine ⟨trivial, ?_⟩
      refine ⟨b7, ?_⟩
      refine ⟨fun b8 => ?_, fun b8 => ?_⟩
      · rw [if_pos (none_t b8)] at h
        refine ⟨b8, ?_⟩
        refine ⟨trivial, ?_⟩
        refine ⟨b8, ?_⟩
        refine ⟨fun b9 => ?_, fun b9 => ?_⟩
        · rw [if_pos (none_t b9)] at h
          refine ⟨b9, ?_⟩
          refine ⟨trivial, ?_⟩
          refine ⟨b9, ?_⟩
          refine ⟨fun b10 => ?_, fun b10 => ?_⟩
          · rw [if_pos (beq_t b10)] at h
            refine ⟨b10, ?_⟩
            refine ⟨trivial, ?_⟩
            refine ⟨b10, ?_⟩
            refine ⟨fun b11 => ?_, fun b11 => ?_⟩
            · rw [if_pos (beq_t b11)] at h
              refine ⟨b11, ?_⟩
              refine ⟨trivial, ?_⟩
              refine ⟨b11, ?_⟩
              refine ⟨fun b12 => ?_, fun b12 => ?_⟩
              · rw [if_pos (beq_t b12)] at h
                refine ⟨b12, ?_⟩
                obtain ⟨t13, ht13, h⟩ := of_bind h
                refine ⟨t13, ⟨num.fun_ ht13, trivial⟩, ?_⟩
                refine ⟨b12, ?_⟩
                refine ⟨trivial, ?_⟩
                refine ⟨b12, ?_⟩
                refine ⟨fun b14 => ?_, fun b14 => ?_⟩
                · rw [if_pos (beq_t b14)] at h
                  refine ⟨trivial, ?_⟩
                  refine ⟨b14, ?_⟩
                  obtain ⟨t15, ht15, h⟩ := of_bind h
                  refine ⟨t15, ⟨fds_Free.fun_ ht15, trivial⟩, ?_⟩
                  refine ⟨b14, ?_⟩
                  refine ⟨trivial, ?_⟩
                  refine ⟨b14, ?_⟩
                  refine ⟨fun b16 => ?_, fun b16 => ?_⟩
                  · rw [if_pos (beq_t b16)] at h
                    refine ⟨trivial, ?_⟩
                    refine ⟨b16, ?_⟩
                    obtain ⟨t17, ht17, h⟩ := of_bind h
                    refine ⟨t17, ⟨fds_Files.fun_ ht17, trivial⟩, ?_⟩
                    refine ⟨b16, ?_⟩
                    refine ⟨b16, ?_⟩
                    obtain ⟨t18, ht18, h⟩ := of_bind h
                    refine ⟨t18, ⟨⟨rfl, rfl⟩, halterlaw20_ints.fun_ ht18, trivial⟩, ?_⟩
                    refine ⟨b16, ?_⟩
                    refine ⟨trivial, ?_⟩
                    obtain rfl := Option.some.inj h
                    exact ⟨trivial, ⟨trivial, trivial⟩, rfl, rfl⟩
                  · rw [if_neg (beq_f b16)] at h
                    refine ⟨b16, ?_⟩
                    refine ⟨b16, ?_⟩
                    refine ⟨b16, ?_⟩
                    refine ⟨b16, ?_⟩
                    refine ⟨trivial, ?_⟩
                    obtain rfl := Option.some.inj h
                    exact ⟨trivial, ⟨trivial, trivial⟩, rfl, rfl⟩
                · rw [if_neg (beq_f b14)] at h
                  refine ⟨b14, ?_⟩
                  refine ⟨b14, ?_⟩
                  refine ⟨b14, ?_⟩
                  refine ⟨rfl, ?_⟩
                  refine ⟨rfl, ?_⟩
                  refine ⟨rfl, ?_⟩
                  refine ⟨rfl, ?_⟩
                  refine ⟨rfl, ?_⟩
                  refine ⟨trivial, ?_⟩
                  obtain rfl := Option.some.inj h
                  exact ⟨trivial, ⟨trivial, trivial⟩, rfl, rfl⟩
              · rw [if_neg (beq_f b12)] at h
                refine ⟨b12, ?_⟩
                refine ⟨b12, ?_⟩
                refine ⟨b12, ?_⟩
                refine ⟨rfl, ?_⟩
                refine ⟨rfl, ?_⟩
                refine ⟨rfl, ?_⟩
                refine ⟨rfl, ?_⟩
                refine ⟨rfl, ?_⟩
                refine ⟨rfl, ?_⟩
                refine ⟨rfl, ?_⟩
                refine ⟨rfl, ?_⟩
                refine ⟨rfl, ?_⟩
                refine ⟨trivial, ?_⟩
                obtain rfl := Option.some.inj h
                exact ⟨trivial, ⟨trivial, trivial⟩, rfl, rfl⟩
            · rw [if_neg (beq_f b11)] at h
              refine ⟨b11, ?_⟩
              refine ⟨b11, ?_⟩
              refine ⟨rfl, ?_⟩
              refine ⟨rfl, ?_⟩
              refine ⟨rfl, ?_⟩
              refine ⟨rfl, ?_⟩
              refine ⟨rfl, ?_⟩
              refine ⟨rfl, ?_⟩
              refine ⟨rfl, ?_⟩
              refine ⟨rfl, ?_⟩
              refine ⟨rfl, ?_⟩
              refine ⟨rfl, ?_⟩
              refine ⟨rfl, ?_⟩
              refine ⟨rfl, ?_⟩
              refine ⟨rfl, ?_⟩
              refine ⟨trivial, ?_⟩
              obtain rfl := Option.some.inj h
              exact ⟨trivial, ⟨trivial, trivial⟩, rfl, rfl⟩
          · rw [if_neg (beq_f b10)] at h
            refine ⟨b10, ?_⟩
            refine ⟨b10, ?_⟩
            refine ⟨rfl, ?_⟩
            refine ⟨rfl, ?_⟩
            refine ⟨rfl, ?_⟩
            refine ⟨rfl, ?_⟩
            refine ⟨rfl, ?_⟩
            refine ⟨rfl, ?_⟩
            refine ⟨rfl, ?_⟩
            refine ⟨rfl, ?_⟩
            refine ⟨rfl, ?_⟩
            refine ⟨rfl, ?_⟩
            refine ⟨rfl, ?_⟩
            refine ⟨rfl, ?_⟩
            refine ⟨rfl, ?_⟩
            refine ⟨rfl, ?_⟩
            refine ⟨rfl, ?_⟩
            refine ⟨rfl, ?_⟩
            refine ⟨trivial, ?_⟩
            obtain rfl := Option.some.inj h
            exact ⟨trivial, ⟨trivial, trivial⟩, rfl, rfl⟩
        · rw [if_neg (none_f b9)] at h
          refine ⟨b9, ?_⟩
          refine ⟨b9, ?_⟩
          refine ⟨rfl, ?_⟩
          refine ⟨rfl, ?_⟩
          refine ⟨rfl, ?_⟩
          refine ⟨rfl, ?_⟩
          refine ⟨rfl, ?_⟩
          refine ⟨rfl, ?_⟩
          refine ⟨rfl, ?_⟩
          refine ⟨rfl, ?_⟩
          refine ⟨rfl, ?_⟩
          refine ⟨rfl, ?_⟩
          refine ⟨rfl, ?_⟩
          refine ⟨rfl, ?_⟩
          refine ⟨rfl, ?_⟩
          refine ⟨rfl, ?_⟩
          refine ⟨rfl, ?_⟩
          refine ⟨rfl, ?_⟩
          refine ⟨rfl, ?_⟩
          refine ⟨rfl, ?_⟩
          refine ⟨rfl, ?_⟩
          refine ⟨trivial, ?_⟩
          obtain rfl := Option.some.inj h
          exact ⟨trivial, ⟨trivial, trivial⟩, rfl, rfl⟩
      · rw [if_neg (none_f b8)] at h
        refine ⟨b8, ?_⟩
        refine ⟨b8, ?_⟩
        refine ⟨rfl, ?_⟩
        refine ⟨rfl, ?_⟩
        refine ⟨rfl, ?_⟩
        refine ⟨rfl, ?_⟩
        refine ⟨rfl, ?_⟩
        refine ⟨rfl, ?_⟩
        refine ⟨rfl, ?_⟩
        refine ⟨rfl, ?_⟩
        refine ⟨rfl, ?_⟩
        refine ⟨rfl, ?_⟩
        refine ⟨rfl, ?_⟩
        refine ⟨rfl, ?_⟩
        refine ⟨rfl, ?_⟩
        refine ⟨rfl, ?_⟩
        refine ⟨rfl, ?_⟩
        refine ⟨rfl, ?_⟩
        refine ⟨rfl, ?_⟩
        refine ⟨rfl, ?_⟩
        refine ⟨rfl, ?_⟩
        refine ⟨rfl, ?_⟩
        refine ⟨rfl, ?_⟩
        refine ⟨rfl, ?_⟩
        refine ⟨trivial, ?_⟩
        obtain rfl := Option.some.inj h
        exact ⟨trivial, ⟨trivial, trivial⟩, rfl, rfl⟩
    · rw [if_neg (none_f b7)] at h
      refine ⟨b7, ?_⟩
      refine ⟨b7, ?_⟩
      refine ⟨rfl, ?_⟩
      refine ⟨rfl, ?_⟩
      refine ⟨rfl, ?_⟩
      refine ⟨rfl, ?_⟩
      refine ⟨rfl, ?_⟩
      refine ⟨rfl, ?_⟩
      refine ⟨rfl, ?_⟩
      refine ⟨rfl, ?_⟩
      refine ⟨rfl, ?_⟩
      refine ⟨rfl, ?_⟩
      refine ⟨rfl, ?_⟩
      refine ⟨rfl, ?_⟩
      refine ⟨rfl, ?_⟩
      refine ⟨rfl, ?_⟩
      refine ⟨rfl, ?_⟩
      refine ⟨rfl, ?_⟩
      refine ⟨rfl, ?_⟩
      refine ⟨rfl, ?_⟩
      refine ⟨rfl, ?_⟩
      refine ⟨rfl, ?_⟩
      refine ⟨rfl, ?_⟩
      refine ⟨rfl, ?_⟩
      refine ⟨rfl, ?_⟩
      refine ⟨rfl, ?_⟩
      refine ⟨rfl, ?_⟩
      refine ⟨trivial, ?_⟩
      obtain rfl := Option.some.inj h
      exact ⟨trivial, ⟨trivial, trivial⟩, rfl, rfl⟩
  · rw [if_neg (none_f b6)] at h
    refine ⟨b6, ?_⟩
    refine ⟨b6, ?_⟩
    refine ⟨rfl, ?_⟩
    refine ⟨rfl, ?_⟩
    refine ⟨rfl, ?_⟩
    refine ⟨rfl, ?_⟩
    refine ⟨rfl, ?_⟩
    refine ⟨rfl, ?_⟩
    refine ⟨rfl, ?_⟩
    refine ⟨rfl, ?_⟩
    refine ⟨rfl, ?_⟩
    refine ⟨rfl, ?_⟩
    refine ⟨rfl, ?_⟩
    refine ⟨rfl, ?_⟩
    refine ⟨rfl, ?_⟩
    refine ⟨rfl, ?_⟩
    refine ⟨rfl, ?_⟩
    refine ⟨rfl, ?_⟩
    refine ⟨rfl, ?_⟩
    refine ⟨rfl, ?_⟩
    refine ⟨rfl, ?_⟩
    refine ⟨rfl, ?_⟩
    refine ⟨rfl, ?_⟩
    refine ⟨rfl, ?_⟩
    refine ⟨rfl, ?_⟩
    refine ⟨rfl, ?_⟩
    refine ⟨rfl, ?_⟩
    refine ⟨rfl, ?_⟩
    refine ⟨rfl, ?_⟩
    refine ⟨rfl, ?_⟩
    refine ⟨trivial, ?_⟩
    obtain rfl := Option.some.inj h
    exact ⟨trivial, ⟨trivial, trivial⟩, rfl, rfl⟩
/-! halter/halterlaw20.FdsKeeps -/
def halterlaw20_FdsKeeps.l0 (a1 : Int) : Nat → (List Int) → Int → Option (List Int)
  | 0, _, _ => none
  | n + 1, x7, x8 =>
    if x8 < (8 : Int) then
      if 0 ≤ x8 ∧ x8 < ((8 : Nat) : Int) then
        if (Int.toNat x8) < 8 then
          if 0 ≤ x8 ∧ x8 < ((8 : Nat) : Int) then
            if (Int.toNat x8) < 8 then
              halterlaw20_FdsKeeps.l0 a1 n (List.set x7 (Int.toNat x8) (IntKind.wrap .i64 ((Int.tmod (IntKind.wrap .u64 ((List.getD x7 (Int.toNat x8) (0 : Int)))) (33 : Int))))) (IntKind.wrap .i64 (x8 + (1 : Int)))
            else none
          else none
        else none
      else none
    else
      some x7
def halterlaw20_FdsKeeps.l0_S (a1 : Int) (x7 : List Int) (x8 : Int) : St := ⟨[.any, .v (.one (.sc (.int .i64 a1))), .v (.one (.ptr 0 ⟨0, 0, 0, 0⟩)), .any, .any, .v (.one (.sc (.int .i64 x8))), .any, .any, .any, .any, .any, .any, .any, .any, .any, .any, .any, .any, .any, .any, .any, .any, .any, .any, .any, .any, .any, .any, .any, .any, .any, .any, .any, .any, .any, .any, .any, .any, .any, .any, .any, .any, .any, .any, .any, .any, .any, .any, .any, .any, .any, .any, .any, .any, .any, .any, .any, .any, .any, .any, .any, .any, .any, .any, .any, .any, .any, .any, .any, .any, .any, .any, .any, .any, .any, .any, .any, .any, .any, .any, .any, .any, .any, .any, .any, .any, .any, .any, .any, .any, .any, .any, .any, .any, .any, .any, .any, .any, .any, .any, .any, .any, .any, .any, .any, .any, .any, .any, .any, .any, .any, .any, .any, .any, .any, .any, .any, .any, .any, .any, .any, .any, .any, .any, .any, .any, .any, .any, .any, .any, .any, .any, .any, .any, .any, .any, .any, .any], [.ex false [.row 8 (.int .i64) x7] 22], 0⟩
def halterlaw20_FdsKeeps.l0_Q (a1 : Int) (t : (List Int)) : Exit → St → Prop := fun e s => e = (.exit 0) ∧ s = ⟨[.any, .v (.one (.sc (.int .i64 a1))), .v (.one (.ptr 0 ⟨0, 0, 0, 0⟩)), .any, .any, .any, .any, .any, .any, .any, .any, .any, .any, .any, .any, .any, .any, .any, .any, .any, .any, .any, .any, .any, .any, .any, .any, .any, .any, .any, .any, .any, .any, .any, .any, .any, .any, .any, .any, .any, .any, .any, .any, .any, .any, .any, .any, .any, .any, .any, .any, .any, .any, .any, .any, .any, .any, .any, .any, .any, .any, .any, .any, .any, .any, .any, .any, .any, .any, .any, .any, .any, .any, .any, .any, .any, .any, .any, .any, .any, .any, .any, .any, .any, .any, .any, .any, .any, .any, .any, .any, .any, .any, .any, .any, .any, .any, .any, .any, .any, .any, .any, .any, .any, .any, .any, .any, .any, .any, .any, .any, .any, .any, .any, .any, .any, .any, .any, .any, .any, .any, .any, .any, .any, .any, .any, .any, .any, .any, .any, .any, .any, .any, .any, .any, .any, .any, .any], [.ex false [.row 8 (.int .i64) t] 22], 0⟩
theorem halterlaw20_FdsKeeps.l0_ok (a1 : Int) : ∀ (n : Nat) (x7 : List Int) (x8 : Int) (r : (List Int)), halterlaw20_FdsKeeps.l0 a1 n x7 x8 = some r → TripN cfg (cpath (Tryd.f4.body.getD .skip) [1, 0, 1, 0, 0]) n (halterlaw20_FdsKeeps.l0_S a1 x7 x8) (halterlaw20_FdsKeeps.l0_Q a1 r)
  | 0, _, _, r, h => by cases h
  | n + 1, x7, x8, r, h => by
    rw [halterlaw20_FdsKeeps.l0] at h
    refine TripN.of_run cfg_ok (k := (.br (.adj [] (.adj [] (.adj [] (.adj [.keep [1, 2, 5], .drop 1] .nil)))) (.adj [.keep [1, 2], .drop 1] .nil))) (to_goal (q := (True) ∧ (((decide (x8 < (8 : Int))) = true → (True ∧ (True ∧ (0 ≤ x8 ∧ x8 < ((8 : Nat) : Int)) ∧ ((Int.toNat x8) < 8) ∧ (True) ∧ ((33 : Int) ≠ 0) ∧ (True) ∧ (0 ≤ x8 ∧ x8 < ((8 : Nat) : Int)) ∧ ((Int.toNat x8) < 8) ∧ (True ∧ (True) ∧ (((True) ∧ (True) ∧ True) ∧ TripN cfg (cpath (Tryd.f4.body.getD .skip) [1, 0, 1, 0, 0]) n (halterlaw20_FdsKeeps.l0_S a1 (List.set x7 (Int.toNat x8) (IntKind.wrap .i64 ((Int.tmod (IntKind.wrap .u64 ((List.getD x7 (Int.toNat x8) (0 : Int)))) (33 : Int))))) (IntKind.wrap .i64 (x8 + (1 : Int)))) (halterlaw20_FdsKeeps.l0_Q a1 r)))))) ∧ ((decide (x8 < (8 : Int))) = false → (((True) ∧ (True) ∧ True) ∧ halterlaw20_FdsKeeps.l0_Q a1 r (.exit 0) ⟨[.any, .v (.one (.sc (.int .i64 a1))), .v (.one (.ptr 0 ⟨0, 0, 0, 0⟩)), .any, .any, .any, .any, .any, .any, .any, .any, .any, .any, .any, .any, .any, .any, .any, .any, .any, .any, .any, .any, .any, .any, .any, .any, .any, .any, .any, .any, .any, .any, .any, .any, .any, .any, .any, .any, .any, .any, .any, .any, .any, .any, .any, .any, .any, .any, .any, .any, .any, .any, .any, .any, .any, .any, .any, .any, .any, .any, .any, .any, .any, .any, .any, .any, .any, .any, .any, .any, .any, .any, .any, .any, .any, .any, .any, .any, .any, .any, .any, .any, .any, .any, .any, .any, .any, .any, .any, .any, .any, .any, .any, .any, .any, .any, .any, .any, .any, .any, .any, .any, .any, .any, .any, .any, .any, .any, .any, .any, .any, .any, .any, .any, .any, .any, .any, .any, .any, .any, .any, .any, .any, .any, .any, .any, .any, .any, .any, .any, .any, .any, .any, .any, .any, .any, .any], [.ex false [.row 8 (.int .i64) x7] 22], 0⟩)))) (by kernel_rfl) ?_)
    refine ⟨trivial, ?_⟩
    refine ⟨fun b16 => ?_, fun b16 => ?_⟩
    · rw [if_pos (of_decide_eq_true b16)] at h
      refine ⟨trivial, ?_⟩
      refine ⟨trivial, ?_⟩
      obtain ⟨g20, h⟩ := of_guard h
      refine ⟨g20, ?_⟩
      obtain ⟨g19, h⟩ := of_guard h
      refine ⟨g19, ?_⟩
      refine ⟨trivial, ?_⟩
      refine ⟨(by decide), ?_⟩
      refine ⟨trivial, ?_⟩
      obtain ⟨g18, h⟩ := of_guard h
      refine ⟨g18, ?_⟩
      obtain ⟨g17, h⟩ := of_guard h
      refine ⟨g17, ?_⟩
      refine ⟨trivial, ?_⟩
      refine ⟨trivial, ?_⟩
      exact ⟨⟨trivial, trivial, trivial⟩, halterlaw20_FdsKeeps.l0_ok a1 n (List.set x7 (Int.toNat x8) (IntKind.wrap .i64 ((Int.tmod (IntKind.wrap .u64 ((List.getD x7 (Int.toNat x8) (0 : Int)))) (33 : Int))))) (IntKind.wrap .i64 (x8 + (1 : Int))) r h⟩
    · rw [if_neg (of_decide_eq_false b16)] at h
      obtain rfl := Option.some.inj h
      exact ⟨⟨trivial, trivial, trivial⟩, rfl, rfl⟩
def halterlaw20_FdsKeeps.l1 (t15 : (List Int)) (t23 : Int × (List Int) × (Option Int)) (a1 : Int) : Nat → Int → Option ((Unit) ⊕ (Unit))
  | 0, _ => none
  | n + 1, x30 =>
    if x30 < (8 : Int) then
      (fds_At.f t15 x30).bind fun t59 =>
      (fds_At.f t23.2.1 x30).bind fun t60 =>
      if x30 = t23.1 then
        (num.f t59.2).bind fun t62 =>
        if ¬ t62 = (9 : Int) then
          some (.inr ())
        else
          if ¬ (t60.2 = none) then
            some (.inr ())
          else
            if ¬ t60.1 = (IntKind.wrap .i64 ((Int.tmod (IntKind.wrap .u64 (a1)) (32 : Int)))) then
              some (.inr ())
            else
              if ¬ x30 = t23.1 then
                if ¬ t59.1 = t60.1 then
                  some (.inr ())
                else
                  (num.f t59.2).bind fun t68 =>
                  (num.f t60.2).bind fun t69 =>
                  if ¬ t68 = t69 then
                    some (.inr ())
                  else
                    if x30 < t23.1 then
                      if ¬ (t59.2 = none) then
                        some (.inr ())
                      else
                        halterlaw20_FdsKeeps.l1 t15 t23 a1 n (IntKind.wrap .i64 (x30 + (1 : Int)))
                    else
                      halterlaw20_FdsKeeps.l1 t15 t23 a1 n (IntKind.wrap .i64 (x30 + (1 : Int)))
              else
                if x30 < t23.1 then
                  if ¬ (t59.2 = none) then
                    some (.inr ())
                  else
                    halterlaw20_FdsKeeps.l1 t15 t23 a1 n (IntKind.wrap .i64 (x30 + (1 : Int)))
                else
                  halterlaw20_FdsKeeps.l1 t15 t23 a1 n (IntKind.wrap .i64 (x30 + (1 : Int)))
      else
        if ¬ x30 = t23.1 then
          if ¬ t59.1 = t60.1 then
            some (.inr ())
          else
            (num.f t59.2).bind fun t77 =>
            (num.f t60.2).bind fun t78 =>
            if ¬ t77 = t78 then
              some (.inr ())
            else
              if x30 < t23.1 then
                if ¬ (t59.2 = none) then
                  some (.inr ())
                else
                  halterlaw20_FdsKeeps.l1 t15 t23 a1 n (IntKind.wrap .i64 (x30 + (1 : Int)))
              else
                halterlaw20_FdsKeeps.l1 t15 t23 a1 n (IntKind.wrap .i64 (x30 + (1 : Int)))
        else
          if x30 < t23.1 then
            if ¬ (t59.2 = none) then
              some (.inr ())
            else
              halterlaw20_FdsKeeps.l1 t15 t23 a1 n (IntKind.wrap .i64 (x30 + (1 : Int)))
          else
            halterlaw20_FdsKeeps.l1 t15 t23 a1 n (IntKind.wrap .i64 (x30 + (1 : Int)))
    else
      some (.inl ())
def halterlaw20_FdsKeeps.l1_S (t15 : (List Int)) (t23 : Int × (List Int) × (Option Int)) (a1 : Int) (x30 : Int) : St := ⟨[.any, .any, .any, .any, .any, .any, .v (.one (.ptr 1 ⟨0, 0, 0, 0⟩)), .v (.one (.sc (.int .i64 (IntKind.wrap .i64 ((Int.tmod (IntKind.wrap .u64 (a1)) (32 : Int))))))), .v (.one (.sc (.int .i64 t23.1))), .v (.one (.ptr 2 ⟨0, 0, 0, 0⟩)), .any, .v (.one (.sc (.int .i64 x30))), .any, .any, .any, .any, .any, .any, .any, .any, .any, .any, .any, .any, .any, .any, .any, .any, .any, .any, .any, .any, .any, .any, .any, .any, .any, .any, .any, .any, .any, .any, .any, .any, .any, .any, .any, .any, .any, .any, .any, .any, .any, .any, .any, .any, .any, .any, .any, .any, .any, .any, .any, .any, .any, .any, .any, .any, .any, .any, .any, .any, .any, .any, .any, .any, .any, .any, .any, .any, .any, .any, .any, .any, .any, .any, .any, .any, .any, .any, .any, .any, .any, .any, .any, .any, .any, .any, .any, .any, .any, .any, .any, .any, .any, .any, .any, .any, .any, .any, .any, .any, .any, .any, .any, .any, .any, .any, .any, .any, .any, .any, .any, .any, .any, .any, .any, .any, .any, .any, .any, .any, .any, .any, .any, .any, .any, .any], [.ex false [.row 8 (.int .i64) t15] 22, .ex false [.row 8 (.int .i64) t15] 24, .ex false [.row 8 (.int .i64) t23.2.1] 24], 0⟩
def halterlaw20_FdsKeeps.l1_Q (t15 : (List Int)) (t23 : Int × (List Int) × (Option Int)) (a1 : Int) : (Unit) ⊕ (Unit) → Exit → St → Prop
  | .inl t => fun e s => e = (.exit 2) ∧ s = ⟨[.any, .any, .any, .any, .any, .any, .v (.one (.ptr 1 ⟨0, 0, 0, 0⟩)), .v (.one (.sc (.int .i64 (IntKind.wrap .i64 ((Int.tmod (IntKind.wrap .u64 (a1)) (32 : Int))))))), .v (.one (.sc (.int .i64 t23.1))), .v (.one (.ptr 2 ⟨0, 0, 0, 0⟩)), .any, .any, .any, .any, .any, .any, .any, .any, .any, .any, .any, .any, .any, .any, .any, .any, .any, .any, .any, .any, .any, .any, .any, .any, .any, .any, .any, .any, .any, .any, .any, .any, .any, .any, .any, .any, .any, .any, .any, .any, .any, .any, .any, .any, .any, .any, .any, .any, .any, .any, .any, .any, .any, .any, .any, .any, .any, .any, .any, .any, .any, .any, .any, .any, .any, .any, .any, .any, .any, .any, .any, .any, .any, .any, .any, .any, .any, .any, .any, .any, .any, .any, .any, .any, .any, .any, .any, .any, .any, .any, .any, .any, .any, .any, .any, .any, .any, .any, .any, .any, .any, .any, .any, .any, .any, .any, .any, .any, .any, .any, .any, .any, .any, .any, .any, .any, .any, .any, .any, .any, .any, .any, .any, .any, .any, .any, .any, .any], [.ex false [.row 8 (.int .i64) t15] 22, .ex false [.row 8 (.int .i64) t15] 24, .ex false [.row 8 (.int .i64) t23.2.1] 24], 0⟩
  | .inr t => fun e s => e = .ret ∧ s = ⟨[.any, .any, .any, .any, .v (.one (.sc (.bool false))), .any, .any, .any, .any, .any, .any, .any, .any, .any, .any, .any, .any, .any, .any, .any, .any, .any, .any, .any, .any, .any, .any, .any, .any, .any, .any, .any, .any, .any, .any, .any, .any, .any, .any, .any, .any, .any, .any, .any, .any, .any, .any, .any, .any, .any, .any, .any, .any, .any, .any, .any, .any, .any, .any, .any, .any, .any, .any, .any, .any, .any, .any, .any, .any, .any, .any, .any, .any, .any, .any, .any, .any, .any, .any, .any, .any, .any, .any, .any, .any, .any, .any, .any, .any, .any, .any, .any, .any, .any, .any, .any, .any, .any, .any, .any, .any, .any, .any, .any, .any, .any, .any, .any, .any, .any, .any, .any, .any, .any, .any, .any, .any, .any, .any, .any, .any, .any, .any, .any, .any, .any, .any, .any, .any, .any, .any, .any, .any, .any, .any, .any, .any, .any], [.ex false [.row 8 (.int .i64) t15] 22, .ex false [.row 8 (.int .i64) t15] 24, .ex false [.row 8 (.int .i64) t23.2.1] 24], 0⟩
theorem halterlaw20_FdsKeeps.l1_ok (t15 : (List Int)) (t23 : Int × (List Int) × (Option Int)) (a1 : Int) : ∀ (n : Nat) (x30 : Int) (r : (Unit) ⊕ (Unit)), halterlaw20_FdsKeeps.l1 t15 t23 a1 n x30 = some r → TripN cfg (cpath (Tryd.f4.body.getD .skip) [1, 1, 1, 1, 1, 1, 0, 1, 0, 0]) n (halterlaw20_FdsKeeps.l1_S t15 t23 a1 x30) (halterlaw20_FdsKeeps.l1_Q t15 t23 a1 r)
  | 0, _, r, h => by cases h
  | n + 1, x30, r, h => by
    rw [halterlaw20_FdsKeeps.l1] at h
    refine TripN.of_run cfg_ok (k := (.br (.call true [] (Int × (Option Int)) (fun t59 => fds_At.R t59) (fun t59 => (.call true [] (Int × (Option Int)) (fun t60 => fds_At.R t60) (fun t60 => (.br (.one true (.call true [] (Int) (fun t62 => num.R t62) (fun t62 => (.one true (.one true (.br (.one true (.one true (.one true (.one true (.one true (.one true (.one true (.one true (.one true (.one true (.one true (.one true (.one true (.one true (.one true (.one true (.one true (.one true (.one true (.one true (.one true (.one true (.one true (.adj [] (.adj [.keep [4], .drop 3] .nil))))))))))))))))))))))))) (.one false (.one true (.one false (.one true (.br (.one true (.one true (.one true (.one true (.one true (.one true (.one true (.one true (.one true (.one true (.one true (.one true (.one true (.one true (.one true (.one true (.one true (.one true (.adj [] (.adj [.keep [4], .drop 3] .nil)))))))))))))))))))) (.one false (.one false (.one true (.one false (.one true (.br (.one true (.one true (.one true (.one true (.one true (.one true (.one true (.one true (.one true (.one true (.one true (.one true (.adj [] (.adj [.keep [4], .drop 3] .nil)))))))))))))) (.one false (.one false (.one false (.br (.one true (.one true (.one true (.br (.one true (.one true (.one true (.one true (.one true (.one true (.one false (.one true (.one false (.one true (.one true (.one true (.one true (.one true (.one true (.one true (.adj [] (.adj [.keep [4], .drop 3] .nil)))))))))))))))))) (.one false (.call true [] (Int) (fun t68 => num.R t68) (fun t68 => (.one false (.one false (.call true [] (Int) (fun t69 => num.R t69) (fun t69 => (.one false (.one true (.one false (.one false (.one true (.one false (.br (.one true (.one true (.one true (.one true (.one true (.one true (.adj [] (.adj [.keep [4], .drop 3] .nil)))))))) (.one false (.one false (.one false (.br (.one true (.one false (.one true (.one false (.br (.adj [] (.adj [.keep [4], .drop 3] .nil)) (.adj [] (.adj [] (.adj [.keep [6, 7, 8, 9, 11], .drop 3] .nil)))))))) (.one false (.one false (.one false (.one false (.one false (.adj [] (.adj [] (.adj [.keep [6, 7, 8, 9, 11], .drop 3] .nil)))))))))))))))))))))))))))))) (.one false (.one false (.one false (.one false (.one false (.one false (.one false (.one false (.one false (.one false (.one false (.br (.one true (.one false (.one true (.one false (.br (.adj [] (.adj [.keep [4], .drop 3] .nil)) (.adj [] (.adj [] (.adj [.keep [6, 7, 8, 9, 11], .drop 3] .nil)))))))) (.one false (.one false (.one false (.one false (.one false (.adj [] (.adj [] (.adj [.keep [6, 7, 8, 9, 11], .drop 3] .nil))))))))))))))))))))))))))))))))))))))))) (.one false (.one false (.one false (.one false (.one false (.one false (.one false (.one false (.one false (.one false (.one false (.br (.one true (.one true (.one true (.br (.one true (.one true (.one true (.one true (.one true (.one true (.one false (.one true (.one false (.one true (.one true (.one true (.one true (.one true (.one true (.one true (.adj [] (.adj [.keep [4], .drop 3] .nil)))))))))))))))))) (.one false (.call true [] (Int) (fun t77 => num.R t77) (fun t77 => (.one false (.one false (.call true [] (Int) (fun t78 => num.R t78) (fun t78 => (.one false (.one true (.one false (.one false (.one true (.one false (.br (.one true (.one true (.one true (.one true (.one true (.one true (.adj [] (.adj [.keep [4], .drop 3] .nil)))))))) (.one false (.one false (.one false (.br (.one true (.one false (.one true (.one false (.br (.adj [] (.adj [.keep [4], .drop 3] .nil)) (.adj [] (.adj [] (.adj [.keep [6, 7, 8, 9, 11], .drop 3] .nil)))))))) (.one false (.one false (.one false (.one false (.one false (.adj [] (.adj [] (.adj [.keep [6, 7, 8, 9, 11], .drop 3] .nil)))))))))))))))))))))))))))))) (.one false (.one false (.one false (.one false (.one false (.one false (.one false (.one false (.one false (.one false (.one false (.br (.one true (.one false (.one true (.one false (.br (.adj [] (.adj [.keep [4], .drop 3] .nil)) (.adj [] (.adj [] (.adj [.keep [6, 7, 8, 9, 11], .drop 3] .nil)))))))) (.one false (.one false (.one false (.one false (.one false (.adj [] (.adj [] (.adj [.keep [6, 7, 8, 9, 11], .drop 3] .nil))))))))))))))))))))))))))))))))))))) (.adj [.keep [6, 7, 8, 9], .drop 3] .nil))) (to_goal (q := (True) ∧ (((decide (x30 < (8 : Int))) = true → (True) ∧ (∃ t59 : Int × (Option Int), (Fun cfg 8 [.agg [.row 8 (.int .i64) t15], .one (.sc (.int .i64 x30))] [] (fds_At.R t59) [] ∧ True) ∧ (True) ∧ (∃ t60 : Int × (Option Int), (Fun cfg 8 [.agg [.row 8 (.int .i64) t23.2.1], .one (.sc (.int .i64 x30))] [] (fds_At.R t60) [] ∧ True) ∧ (True) ∧ (((x30 == t23.1) = true → ((x30 == t23.1) = true ∧ (∃ t62 : Int, (Fun cfg 16 [.one (.err t59.2)] [] (num.R t62) [] ∧ True) ∧ ((x30 == t23.1) = true ∧ (True) ∧ ((x30 == t23.1) = true ∧ (((t62 != (9 : Int)) = false → ((t62 != (9 : Int)) = false ∧ (True) ∧ ((x30 == t23.1) = true ∧ ((t62 != (9 : Int)) = false ∧ ((x30 == t23.1) = true ∧ (((!(Option.isNone t60.2)) = false → ((!(Option.isNone t60.2)) = false ∧ ((!(Option.isNone t60.2)) = false ∧ (True) ∧ ((x30 == t23.1) = true ∧ ((!(Option.isNone t60.2)) = false ∧ ((x30 == t23.1) = true ∧ (((t60.1 != (IntKind.wrap .i64 ((Int.tmod (IntKind.wrap .u64 (a1)) (32 : Int))))) = false → ((t60.1 != (IntKind.wrap .i64 ((Int.tmod (IntKind.wrap .u64 (a1)) (32 : Int))))) = false ∧ ((t60.1 != (IntKind.wrap .i64 ((Int.tmod (IntKind.wrap .u64 (a1)) (32 : Int))))) = false ∧ (True) ∧ ((t60.1 != (IntKind.wrap .i64 ((Int.tmod (IntKind.wrap .u64 (a1)) (32 : Int))))) = false ∧ (((x30 != t23.1) = true → ((x30 != t23.1) = true ∧ ((x30 != t23.1) = true ∧ (True) ∧ ((x30 != t23.1) = true ∧ (((t59.1 != t60.1) = false → ((t59.1 != t60.1) = false ∧ (∃ t68 : Int, (Fun cfg 16 [.one (.err t59.2)] [] (num.R t68) [] ∧ True) ∧ ((t59.1 != t60.1) = false ∧ ((t59.1 != t60.1) = false ∧ (∃ t69 : Int, (Fun cfg 16 [.one (.err t60.2)] [] (num.R t69) [] ∧ True) ∧ ((t59.1 != t60.1) = false ∧ (True) ∧ ((x30 != t23.1) = true ∧ ((t59.1 != t60.1) = false ∧ ((t60.1 != (IntKind.wrap .i64 ((Int.tmod (IntKind.wrap .u64 (a1)) (32 : Int))))) = false ∧ ((x30 != t23.1) = true ∧ ((t60.1 != (IntKind.wrap .i64 ((Int.tmod (IntKind.wrap .u64 (a1)) (32 : Int))))) = false ∧ (((t68 != t69) = false → ((t68 != t69) = false ∧ ((t68 != t69) = false ∧ (True) ∧ ((t68 != t69) = false ∧ (((decide (x30 < t23.1)) = true → ((decide (x30 < t23.1)) = true ∧ (True) ∧ ((t68 != t69) = false ∧ ((decide (x30 < t23.1)) = true ∧ ((t68 != t69) = false ∧ (((!(Option.isNone t59.2)) = true → (True ∧ (((True) ∧ (True) ∧ True) ∧ halterlaw20_FdsKeeps.l1_Q t15 t23 a1 r .ret ⟨[.any, .any, .any, .any, .v (.one (.sc (.bool false))), .any, .any, .any, .any, .any, .any, .any, .any, .any, .any, .any, .any, .any, .any, .any, .any, .any, .any, .any, .any, .any, .any, .any, .any, .any, .any, .any, .any, .any, .any, .any, .any, .any, .any, .any, .any, .any, .any, .any, .any, .any, .any, .any, .any, .any, .any, .any, .any, .any, .any, .any, .any, .any, .any, .any, .any, .any, .any, .any, .any, .any, .any, .any, .any, .any, .any, .any, .any, .any, .any, .any, .any, .any, .any, .any, .any, .any, .any, .any, .any, .any, .any, .any, .any, .any, .any, .any, .any, .any, .any, .any, .any, .any, .any, .any, .any, .any, .any, .any, .any, .any, .any, .any, .any, .any, .any, .any, .any, .any, .any, .any, .any, .any, .any, .any, .any, .any, .any, .any, .any, .any, .any, .any, .any, .any, .any, .any, .any, .any, .any, .any, .any, .any], [.ex false [.row 8 (.int .i64) t15] 22, .ex false [.row 8 (.int .i64) t15] 24, .ex false [.row 8 (.int .i64) t23.2.1] 24], 0⟩))) ∧ ((!(Option.isNone t59.2)) = false → (True ∧ (True ∧ (True) ∧ (((True) ∧ (True) ∧ True) ∧ TripN cfg (cpath (Tryd.f4.body.getD .skip) [1, 1, 1, 1, 1, 1, 0, 1, 0, 0]) n (halterlaw20_FdsKeeps.l1_S t15 t23 a1 (IntKind.wrap .i64 (x30 + (1 : Int)))) (halterlaw20_FdsKeeps.l1_Q t15 t23 a1 r))))))))))) ∧ ((decide (x30 < t23.1)) = false → ((decide (x30 < t23.1)) = false ∧ ((t68 != t69) = false ∧ ((decide (x30 < t23.1)) = false ∧ ((t68 != t69) = false ∧ (false = false ∧ (True ∧ (True ∧ (True) ∧ (((True) ∧ (True) ∧ True) ∧ TripN cfg (cpath (Tryd.f4.body.getD .skip) [1, 1, 1, 1, 1, 1, 0, 1, 0, 0]) n (halterlaw20_FdsKeeps.l1_S t15 t23 a1 (IntKind.wrap .i64 (x30 + (1 : Int)))) (halterlaw20_FdsKeeps.l1_Q t15 t23 a1 r))))))))))))))) ∧ ((t68 != t69) = true → ((t68 != t69) = true ∧ ((t68 != t69) = true ∧ ((t68 != t69) = true ∧ ((t68 != t69) = true ∧ ((t68 != t69) = true ∧ (true = true ∧ (True ∧ (((True) ∧ (True) ∧ True) ∧ halterlaw20_FdsKeeps.l1_Q t15 t23 a1 r .ret ⟨[.any, .any, .any, .any, .v (.one (.sc (.bool false))), .any, .any, .any, .any, .any, .any, .any, .any, .any, .any, .any, .any, .any, .any, .any, .any, .any, .any, .any, .any, .any, .any, .any, .any, .any, .any, .any, .any, .any, .any, .any, .any, .any, .any, .any, .any, .any, .any, .any, .any, .any, .any, .any, .any, .any, .any, .any, .any, .any, .any, .any, .any, .any, .any, .any, .any, .any, .any, .any, .any, .any, .any, .any, .any, .any, .any, .any, .any, .any, .any, .any, .any, .any, .any, .any, .any, .any, .any, .any, .any, .any, .any, .any, .any, .any, .any, .any, .any, .any, .any, .any, .any, .any, .any, .any, .any, .any, .any, .any, .any, .any, .any, .any, .any, .any, .any, .any, .any, .any, .any, .any, .any, .any, .any, .any, .any, .any, .any, .any, .any, .any, .any, .any, .any, .any, .any, .any, .any, .any, .any, .any, .any, .any], [.ex false [.row 8 (.int .i64) t15] 22, .ex false [.row 8 (.int .i64) t15] 24, .ex false [.row 8 (.int .i64) t23.2.1] 24], 0⟩)))))))))))))))))))))) ∧ ((t59.1 != t60.1) = true → ((t59.1 != t60.1) = true ∧ ((t59.1 != t60.1) = true ∧ ((t59.1 != t60.1) = true ∧ ((t59.1 != t60.1) = true ∧ ((x30 != t23.1) = true ∧ ((t59.1 != t60.1) = true ∧ ((t60.1 != (IntKind.wrap .i64 ((Int.tmod (IntKind.wrap .u64 (a1)) (32 : Int))))) = false ∧ ((x30 != t23.1) = true ∧ ((t60.1 != (IntKind.wrap .i64 ((Int.tmod (IntKind.wrap .u64 (a1)) (32 : Int))))) = false ∧ (true = true ∧ (true = true ∧ (true = true ∧ (true = true ∧ (true = true ∧ (true = true ∧ (true = true ∧ (True ∧ (((True) ∧ (True) ∧ True) ∧ halterlaw20_FdsKeeps.l1_Q t15 t23 a1 r .ret ⟨[.any, .any, .any, .any, .v (.one (.sc (.bool false))), .any, .any, .any, .any, .any, .any, .any, .any, .any, .any, .any, .any, .any, .any, .any, .any, .any, .any, .any, .any, .any, .any, .any, .any, .any, .any, .any, .any, .any, .any, .any, .any, .any, .any, .any, .any, .any, .any, .any, .any, .any, .any, .any, .any, .any, .any, .any, .any, .any, .any, .any, .any, .any, .any, .any, .any, .any, .any, .any, .any, .any, .any, .any, .any, .any, .any, .any, .any, .any, .any, .any, .any, .any, .any, .any, .any, .any, .any, .any, .any, .any, .any, .any, .any, .any, .any, .any, .any, .any, .any, .any, .any, .any, .any, .any, .any, .any, .any, .any, .any, .any, .any, .any, .any, .any, .any, .any, .any, .any, .any, .any, .any, .any, .any, .any, .any, .any, .any, .any, .any, .any, .any, .any, .any, .any, .any, .any, .any, .any, .any, .any, .any, .any], [.ex false [.row 8 (.int .i64) t15] 22, .ex false [.row 8 (.int .i64) t15] 24, .ex false [.row 8 (.int .i64) t23.2.1] 24], 0⟩)))))))))))))))))))))))) ∧ ((x30 != t23.1) = false → ((x30 != t23.1) = false ∧ ((x30 != t23.1) = false ∧ ((x30 != t23.1) = false ∧ ((x30 != t23.1) = false ∧ ((t60.1 != (IntKind.wrap .i64 ((Int.tmod (IntKind.wrap .u64 (a1)) (32 : Int))))) = false ∧ ((x30 != t23.1) = false ∧ ((t60.1 != (IntKind.wrap .i64 ((Int.tmod (IntKind.wrap .u64 (a1)) (32 : Int))))) = false ∧ (false = false ∧ (false = false ∧ (false = false ∧ (True) ∧ (false = false ∧ (((decide (x30 < t23.1)) = true → ((decide (x30 < t23.1)) = true ∧ (True) ∧ (false = false ∧ ((decide (x30 < t23.1)) = true ∧ (false = false ∧ (((!(Option.isNone t59.2)) = true → (True ∧ (((True) ∧ (True) ∧ True) ∧ halterlaw20_FdsKeeps.l1_Q t15 t23 a1 r .ret ⟨[.any, .any, .any, .any, .v (.one (.sc (.bool false))), .any, .any, .any, .any, .any, .any, .any, .any, .any, .any, .any, .any, .any, .any, .any, .any, .any, .any, .any, .any, .any, .any, .any, .any, .any, .any, .any, .any, .any, .any, .any, .any, .any, .any, .any, .any, .any, .any, .any, .any, .any, .any, .any, .any, .any, .any, .any, .any, .any, .any, .any, .any, .any, .any, .any, .any, .any, .any, .any, .any, .any, .any, .any, .any, .any, .any, .any, .any, .any, .any, .any, .any, .any, .any, .any, .any, .any, .any, .any, .any, .any, .any, .any, .any, .any, .any, .any, .any, .any, .any, .any, .any, .any, .any, .any, .any, .any, .any, .any, .any, .any, .any, .any, .any, .any, .any, .any, .any, .any, .any, .any, .any, .any, .any, .any, .any, .any, .any, .any, .any, .any, .any, .any, .any, .any, .any, .any, .any, .any, .any, .any, .any, .any], [.ex false [.row 8 (.int .i64) t15] 22, .ex false [.row 8 (.int .i64) t15] 24, .ex false [.row 8 (.int .i64) t23.2.1] 24], 0⟩))) ∧ ((!(Option.isNone t59.2)) = false → (True ∧ (True ∧ (True) ∧ (((True) ∧ (True) ∧ True) ∧ TripN cfg (cpath (Tryd.f4.body.getD .skip) [1, 1, 1, 1, 1, 1, 0, 1, 0, 0]) n (halterlaw20_FdsKeeps.l1_S t15 t23 a1 (IntKind.wrap .i64 (x30 + (1 : Int)))) (halterlaw20_FdsKeeps.l1_Q t15 t23 a1 r))))))))))) ∧ ((decide (x30 < t23.1)) = false → ((decide (x30 < t23.1)) = false ∧ (false = false ∧ ((decide (x30 < t23.1)) = false ∧ (false = false ∧ (false = false ∧ (True ∧ (True ∧ (True) ∧ (((True) ∧ (True) ∧ True) ∧ TripN cfg (cpath (Tryd.f4.body.getD .skip) [1, 1, 1, 1, 1, 1, 0, 1, 0, 0]) n (halterlaw20_FdsKeeps.l1_S t15 t23 a1 (IntKind.wrap .i64 (x30 + (1 : Int)))) (halterlaw20_FdsKeeps.l1_Q t15 t23 a1 r)))))))))))))))))))))))))))) ∧ ((t60.1 != (IntKind.wrap .i64 ((Int.tmod (IntKind.wrap .u64 (a1)) (32 : Int))))) = true → ((t60.1 != (IntKind.wrap .i64 ((Int.tmod (IntKind.wrap .u64 (a1)) (32 : Int))))) = true ∧ ((t60.1 != (IntKind.wrap .i64 ((Int.tmod (IntKind.wrap .u64 (a1)) (32 : Int))))) = true ∧ ((t60.1 != (IntKind.wrap .i64 ((Int.tmod (IntKind.wrap .u64 (a1)) (32 : Int))))) = true ∧ ((t60.1 != (IntKind.wrap .i64 ((Int.tmod (IntKind.wrap .u64 (a1)) (32 : Int))))) = true ∧ ((t60.1 != (IntKind.wrap .i64 ((Int.tmod (IntKind.wrap .u64 (a1)) (32 : Int))))) = true ∧ (true = true ∧ (true = true ∧ (true = true ∧ (true = true ∧ (true = true ∧ (true = true ∧ (true = true ∧ (True ∧ (((True) ∧ (True) ∧ True) ∧ halterlaw20_FdsKeeps.l1_Q t15 t23 a1 r .ret ⟨[.any, .any, .any, .any, .v (.one (.sc (.bool false))), .any, .any, .any, .any, .any, .any, .any, .any, .any, .any, .any, .any, .any, .any, .any, .any, .any, .any, .any, .any, .any, .any, .any, .any, .any, .any, .any, .any, .any, .any, .any, .any, .any, .any, .any, .any, .any, .any, .any, .any, .any, .any, .any, .any, .any, .any, .any, .any, .any, .any, .any, .any, .any, .any, .any, .any, .any, .any, .any, .any, .any, .any, .any, .any, .any, .any, .any, .any, .any, .any, .any, .any, .any, .any, .any, .any, .any, .any, .any, .any, .any, .any, .any, .any, .any, .any, .any, .any, .any, .any, .any, .any, .any, .any, .any, .any, .any, .any, .any, .any, .any, .any, .any, .any, .any, .any, .any, .any, .any, .any, .any, .any, .any, .any, .any, .any, .any, .any, .any, .any, .any, .any, .any, .any, .any, .any, .any, .any, .any, .any, .any, .any, .any], [.ex false [.row 8 (.int .i64) t15] 22, .ex false [.row 8 (.int .i64) t15] 24, .ex false [.row 8 (.int .i64) t23.2.1] 24], 0⟩)))))))))))))))))))))) ∧ ((!(Option.isNone t60.2)) = true → ((!(Option.isNone t60.2)) = true ∧ ((!(Option.isNone t60.2)) = true ∧ ((x30 == t23.1) = true ∧ ((!(Option.isNone t60.2)) = true ∧ ((x30 == t23.1) = true ∧ (true = true ∧ (true = true ∧ (true = true ∧ (true = true ∧ (true = true ∧ (true = true ∧ (true = true ∧ (true = true ∧ (true = true ∧ (true = true ∧ (true = true ∧ (true = true ∧ (true = true ∧ (True ∧ (((True) ∧ (True) ∧ True) ∧ halterlaw20_FdsKeeps.l1_Q t15 t23 a1 r .ret ⟨[.any, .any, .any, .any, .v (.one (.sc (.bool false))), .any, .any, .any, .any, .any, .any, .any, .any, .any, .any, .any, .any, .any, .any, .any, .any, .any, .any, .any, .any, .any, .any, .any, .any, .any, .any, .any, .any, .any, .any, .any, .any, .any, .any, .any, .any, .any, .any, .any, .any, .any, .any, .any, .any, .any, .any, .any, .any, .any, .any, .any, .any, .any, .any, .any, .any, .any, .any, .any, .any, .any, .any, .any, .any, .any, .any, .any, .any, .any, .any, .any, .any, .any, .any, .any, .any, .any, .any, .any, .any, .any, .any, .any, .any, .any, .any, .any, .any, .any, .any, .any, .any, .any, .any, .any, .any, .any, .any, .any, .any, .any, .any, .any, .any, .any, .any, .any, .any, .any, .any, .any, .any, .any, .any, .any, .any, .any, .any, .any, .any, .any, .any, .any, .any, .any, .any, .any, .any, .any, .any, .any, .any, .any], [.ex false [.row 8 (.int .i64) t15] 22, .ex false [.row 8 (.int .i64) t15] 24, .ex false [.row 8 (.int .i64) t23.2.1] 24], 0⟩))))))))))))))))))))))))))) ∧ ((t62 != (9 : Int)) = true → ((t62 != (9 : Int)) = true ∧ ((x30 == t23.1) = true ∧ ((t62 != (9 : Int)) = true ∧ ((x30 == t23.1) = true ∧ (true = true ∧ (true = true ∧ (true = true ∧ ((x30 == t23.1) = true ∧ (true = true ∧ ((x30 == t23.1) = true ∧ (true = true ∧ (true = true ∧ (true = true ∧ (true = true ∧ (true = true ∧ (true = true ∧ (true = true ∧ (true = true ∧ (true = true ∧ (true = true ∧ (true = true ∧ (true = true ∧ (true = true ∧ (True ∧ (((True) ∧ (True) ∧ True) ∧ halterlaw20_FdsKeeps.l1_Q t15 t23 a1 r .ret ⟨[.any, .any, .any, .any, .v (.one (.sc (.bool false))), .any, .any, .any, .any, .any, .any, .any, .any, .any, .any, .any, .any, .any, .any, .any, .any, .any, .any, .any, .any, .any, .any, .any, .any, .any, .any, .any, .any, .any, .any, .any, .any, .any, .any, .any, .any, .any, .any, .any, .any, .any, .any, .any, .any, .any, .any, .any, .any, .any, .any, .any, .any, .any, .any, .any, .any, .any, .any, .any, .any, .any, .any, .any, .any, .any, .any, .any, .any, .any, .any, .any, .any, .any, .any, .any, .any, .any, .any, .any, .any, .any, .any, .any, .any, .any, .any, .any, .any, .any, .any, .any, .any, .any, .any, .any, .any, .any, .any, .any, .any, .any, .any, .any, .any, .any, .any, .any, .any, .any, .any, .any, .any, .any, .any, .any, .any, .any, .any, .any, .any, .any, .any, .any, .any, .any, .any, .any, .any, .any, .any, .any, .any, .any], [.ex false [.row 8 (.int .i64) t15] 22, .ex false [.row 8 (.int .i64) t15] 24, .ex false [.row 8 (.int .i64) t23.2.1] 24], 0⟩)))))))))))))))))))))))))))))))) ∧ ((x30 == t23.1) = false → ((x30 == t23.1) = false ∧ ((x30 == t23.1) = false ∧ ((x30 == t23.1) = false ∧ ((x30 == t23.1) = false ∧ ((x30 == t23.1) = false ∧ ((x30 == t23.1) = false ∧ ((x30 == t23.1) = false ∧ (false = false ∧ (false = false ∧ (false = false ∧ (True) ∧ (false = false ∧ (((x30 != t23.1) = true → ((x30 != t23.1) = true ∧ ((x30 != t23.1) = true ∧ (True) ∧ ((x30 != t23.1) = true ∧ (((t59.1 != t60.1) = false → ((t59.1 != t60.1) = false ∧ (∃ t77 : Int, (Fun cfg 16 [.one (.err t59.2)] [] (num.R t77) [] ∧ True) ∧ ((t59.1 != t60.1) = false ∧ ((t59.1 != t60.1) = false ∧ (∃ t78 : Int, (Fun cfg 16 [.one (.err t60.2)] [] (num.R t78) [] ∧ True) ∧ ((t59.1 != t60.1) = false ∧ (True) ∧ ((x30 != t23.1) = true ∧ ((t59.1 != t60.1) = false ∧ (false = false ∧ ((x30 != t23.1) = true ∧ (false = false ∧ (((t77 != t78) = false → ((t77 != t78) = false ∧ ((t77 != t78) = false ∧ (True) ∧ ((t77 != t78) = false ∧ (((decide (x30 < t23.1)) = true → ((decide (x30 < t23.1)) = true ∧ (True) ∧ ((t77 != t78) = false ∧ ((decide (x30 < t23.1)) = true ∧ ((t77 != t78) = false ∧ (((!(Option.isNone t59.2)) = true → (True ∧ (((True) ∧ (True) ∧ True) ∧ halterlaw20_FdsKeeps.l1_Q t15 t23 a1 r .ret ⟨[.any, .any, .any, .any, .v (.one (.sc (.bool false))), .any, .any, .any, .any, .any, .any, .any, .any, .any, .any, .any, .any, .any, .any, .any, .any, .any, .any, .any, .any, .any, .any, .any, .any, .any, .any, .any, .any, .any, .any, .any, .any, .any, .any, .any, .any, .any, .any, .any, .any, .any, .any, .any, .any, .any, .any, .any, .any, .any, .any, .any, .any, .any, .any, .any, .any, .any, .any, .any, .any, .any, .any, .any, .any, .any, .any, .any, .any, .any, .any, .any, .any, .any, .any, .any, .any, .any, .any, .any, .any, .any, .any, .any, .any, .any, .any, .any, .any, .any, .any, .any, .any, .any, .any, .any, .any, .any, .any, .any, .any, .any, .any, .any, .any, .any, .any, .any, .any, .any, .any, .any, .any, .any, .any, .any, .any, .any, .any, .any, .any, .any, .any, .any, .any, .any, .any, .any, .any, .any, .any, .any, .any, .any], [.ex false [.row 8 (.int .i64) t15] 22, .ex false [.row 8 (.int .i64) t15] 24, .ex false [.row 8 (.int .i64) t23.2.1] 24], 0⟩))) ∧ ((!(Option.isNone t59.2)) = false → (True ∧ (True ∧ (True) ∧ (((True) ∧ (True) ∧ True) ∧ TripN cfg (cpath (Tryd.f4.body.getD .skip) [1, 1, 1, 1, 1, 1, 0, 1, 0, 0]) n (halterlaw20_FdsKeeps.l1_S t15 t23 a1 (IntKind.wrap .i64 (x30 + (1 : Int)))) (halterlaw20_FdsKeeps.l1_Q t15 t23 a1 r))))))))))) ∧ ((decide (x30 < t23.1)) = false → ((decide (x30 < t23.1)) = false ∧ ((t77 != t78) = false ∧ ((decide (x30 < t23.1)) = false ∧ ((t77 != t78) = false ∧ (false = false ∧ (True ∧ (True ∧ (True) ∧ (((True) ∧ (True) ∧ True) ∧ TripN cfg (cpath (Tryd.f4.body.getD .skip) [1, 1, 1, 1, 1, 1, 0, 1, 0, 0]) n (halterlaw20_FdsKeeps.l1_S t15 t23 a1 (IntKind.wrap .i64 (x30 + (1 : Int)))) (halterlaw20_FdsKeeps.l1_Q t15 t23 a1 r))))))))))))))) ∧ ((t77 != t78) = true → ((t77 != t78) = true ∧ ((t77 != t78) = true ∧ ((t77 != t78) = true ∧ ((t77 != t78) = true ∧ ((t77 != t78) = true ∧ (true = true ∧ (True ∧ (((True) ∧ (True) ∧ True) ∧ halterlaw20_FdsKeeps.l1_Q t15 t23 a1 r .ret ⟨[.any, .any, .any, .any, .v (.one (.sc (.bool false))), .any, .any, .any, .any, .any, .any, .any, .any, .any, .any, .any, .any, .any, .any, .any, .any, .any, .any, .any, .any, .any, .any, .any, .any, .any, .any, .any, .any, .any, .any, .any, .any, .any, .any, .any, .any, .any, .any, .any, .any, .any, .any, .any, .any, .any, .any, .any, .any, .any, .any, .any, .any, .any, .any, .any, .any, .any, .any, .any, .any, .any, .any, .any, .any, .any, .any, .any, .any, .any, .any, .any, .any, .any, .any, .any, .any, .any, .any, .any, .any, .any, .any, .any, .any, .any, .any, .any, .any, .any, .any, .any, .any, .any, .any, .any, .any, .any, .any, .any, .any, .any, .any, .any, .any, .any, .any, .any, .any, .any, .any, .any, .any, .any, .any, .any, .any, .any, .any, .any, .any, .any, .any, .any, .any, .any, .any, .any, .any, .any, .any, .any, .any, .any], [.ex false [.row 8 (.int .i64) t15] 22, .ex false [.row 8 (.int .i64) t15] 24, .ex false [.row 8 (.int .i64) t23.2.1] 24], 0⟩)))))))))))))))))))))) ∧ ((t59.1 != t60.1) = true → ((t59.1 != t60.1) = true ∧ ((t59.1 != t60.1) = true ∧ ((t59.1 != t60.1) = true ∧ ((t59.1 != t60.1) = true ∧ ((x30 != t23.1) = true ∧ ((t59.1 != t60.1) = true ∧ (false = false ∧ ((x30 != t23.1) = true ∧ (false = false ∧ (true = true ∧ (true = true ∧ (true = true ∧ (true = true ∧ (true = true ∧ (true = true ∧ (true = true ∧ (True ∧ (((True) ∧ (True) ∧ True) ∧ halterlaw20_FdsKeeps.l1_Q t15 t23 a1 r .ret ⟨[.any, .any, .any, .any, .v (.one (.sc (.bool false))), .any, .any, .any, .any, .any, .any, .any, .any, .any, .any, .any, .any, .any, .any, .any, .any, .any, .any, .any, .any, .any, .any, .any, .any, .any, .any, .any, .any, .any, .any, .any, .any, .any, .any, .any, .any, .any, .any, .any, .any, .any, .any, .any, .any, .any, .any, .any, .any, .any, .any, .any, .any, .any, .any, .any, .any, .any, .any, .any, .any, .any, .any, .any, .any, .any, .any, .any, .any, .any, .any, .any, .any, .any, .any, .any, .any, .any, .any, .any, .any, .any, .any, .any, .any, .any, .any, .any, .any, .any, .any, .any, .any, .any, .any, .any, .any, .any, .any, .any, .any, .any, .any, .any, .any, .any, .any, .any, .any, .any, .any, .any, .any, .any, .any, .any, .any, .any, .any, .any, .any, .any, .any, .any, .any, .any, .any, .any, .any, .any, .any, .any, .any, .any], [.ex false [.row 8 (.int .i64) t15] 22, .ex false [.row 8 (.int .i64) t15] 24, .ex false [.row 8 (.int .i64) t23.2.1] 24], 0⟩)))))))))))))))))))))))) ∧ ((x30 != t23.1) = false → ((x30 != t23.1) = false ∧ ((x30 != t23.1) = false ∧ ((x30 != t23.1) = false ∧ ((x30 != t23.1) = false ∧ (false = false ∧ ((x30 != t23.1) = false ∧ (false = false ∧ (false = false ∧ (false = false ∧ (false = false ∧ (True) ∧ (false = false ∧ (((decide (x30 < t23.1)) = true → ((decide (x30 < t23.1)) = true ∧ (True) ∧ (false = false ∧ ((decide (x30 < t23.1)) = true ∧ (false = false ∧ (((!(Option.isNone t59.2)) = true → (True ∧ (((True) ∧ (True) ∧ True) ∧ halterlaw20_FdsKeeps.l1_Q t15 t23 a1 r .ret ⟨[.any, .any, .any, .any, .v (.one (.sc (.bool false))), .any, .any, .any, .any, .any, .any, .any, .any, .any, .any, .any, .any, .any, .any, .any, .any, .any, .any, .any, .any, .any, .any, .any, .any, .any, .any, .any, .any, .any, .any, .any, .any, .any, .any, .any, .any, .any, .any, .any, .any, .any, .any, .any, .any, .any, .any, .any, .any, .any, .any, .any, .any, .any, .any, .any, .any, .any, .any, .any, .any, .any, .any, .any, .any, .any, .any, .any, .any, .any, .any, .any, .any, .any, .any, .any, .any, .any, .any, .any, .any, .any, .any, .any, .any, .any, .any, .any, .any, .any, .any, .any, .any, .any, .any, .any, .any, .any, .any, .any, .any, .any, .any, .any, .any, .any, .any, .any, .any, .any, .any, .any, .any, .any, .any, .any, .any, .any, .any, .any, .any, .any, .any, .any, .any, .any, .any, .any, .any, .any, .any, .any, .any, .any], [.ex false [.row 8 (.int .i64) t15] 22, .ex false [.row 8 (.int .i64) t15] 24, .ex false [.row 8 (.int .i64) t23.2.1] 24], 0⟩))) ∧ ((!(Option.isNone t59.2)) = false → (True ∧ (True ∧ (True) ∧ (((True) ∧ (True) ∧ True) ∧ TripN cfg (cpath (Tryd.f4.body.getD .skip) [1, 1, 1, 1, 1, 1, 0, 1, 0, 0]) n (halterlaw20_FdsKeeps.l1_S t15 t23 a1 (IntKind.wrap .i64 (x30 + (1 : Int)))) (halterlaw20_FdsKeeps.l1_Q t15 t23 a1 r))))))))))) ∧ ((decide (x30 < t23.1)) = false → ((decide (x30 < t23.1)) = false ∧ (false = false ∧ ((decide (x30 < t23.1)) = false ∧ (false = false ∧ (false = false ∧ (True ∧ (True ∧ (True) ∧ (((True) ∧ (True) ∧ True) ∧ TripN cfg (cpath (Tryd.f4.body.getD .skip) [1, 1, 1, 1, 1, 1, 0, 1, 0, 0]) n (halterlaw20_FdsKeeps.l1_S t15 t23 a1 (IntKind.wrap .i64 (x30 + (1 : Int)))) (halterlaw20_FdsKeeps.l1_Q t15 t23 a1 r)))))))))))))))))))))))))))))))))))))))) ∧ ((decide (x30 < (8 : Int))) = false → (((True) ∧ (True) ∧ True) ∧ halterlaw20_FdsKeeps.l1_Q t15 t23 a1 r (.exit 2) ⟨[.any, .any, .any, .any, .any, .any, .v (.one (.ptr 1 ⟨0, 0, 0, 0⟩)), .v (.one (.sc (.int .i64 (IntKind.wrap .i64 ((Int.tmod (IntKind.wrap .u64 (a1)) (32 : Int))))))), .v (.one (.sc (.int .i64 t23.1))), .v (.one (.ptr 2 ⟨0, 0, 0, 0⟩)), .any, .any, .any, .any, .any, .any, .any, .any, .any, .any, .any, .any, .any, .any, .any, .any, .any, .any, .any, .any, .any, .any, .any, .any, .any, .any, .any, .any, .any, .any, .any, .any, .any, .any, .any, .any, .any, .any, .any, .any, .any, .any, .any, .any, .any, .any, .any, .any, .any, .any, .any, .any, .any, .any, .any, .any, .any, .any, .any, .any, .any, .any, .any, .any, .any, .any, .any, .any, .any, .any, .any, .any, .any, .any, .any, .any, .any, .any, .any, .any, .any, .any, .any, .any, .any, .any, .any, .any, .any, .any, .any, .any, .any, .any, .any, .any, .any, .any, .any, .any, .any, .any, .any, .any, .any, .any, .any, .any, .any, .any, .any, .any, .any, .any, .any, .any, .any, .any, .any, .any, .any, .any, .any, .any, .any, .any, .any, .any], [.ex false [.row 8 (.int .i64) t15] 22, .ex false [.row 8 (.int .i64) t15] 24, .ex false [.row 8 (.int .i64) t23.2.1] 24], 0⟩)))) (by kernel_rfl) ?_)
    refine ⟨trivial, ?_⟩
    refine ⟨fun b58 => ?_, fun b58 => ?_⟩
    · rw [if_pos (of_decide_eq_true b58)] at h
      refine ⟨trivial, ?_⟩
      obtain ⟨t59, ht59, h⟩ := of_bind h
      refine ⟨t59, ⟨fds_At.fun_ ht59, trivial⟩, ?_⟩
      refine ⟨trivial, ?_⟩
      obtain ⟨t60, ht60, h⟩ := of_bind h
      refine ⟨t60, ⟨fds_At.fun_ ht60, trivial⟩, ?_⟩
      refine ⟨trivial, ?_⟩
      refine ⟨fun b61 => ?_, fun b61 => ?_⟩
      · rw [if_pos (beq_t b61)] at h
        refine ⟨b61, ?_⟩
        obtain ⟨t62, ht62, h⟩ := of_bind h
        refine ⟨t62, ⟨num.fun_ ht62, trivial⟩, ?_⟩
        refine ⟨b61, ?_⟩
        refine ⟨trivial, ?_⟩
        refine ⟨b61, ?_⟩
        refine ⟨fun b63 => ?_, fun b63 => ?_⟩
        · rw [if_neg (not_not_intro (bne_f b63))] at h
          refine ⟨b63, ?_⟩
          refine ⟨trivial, ?_⟩
          refine ⟨b61, ?_⟩
          refine ⟨b63, ?_⟩
          refine ⟨b61, ?_⟩
          refine ⟨fun b64 => ?_, fun b64 => ?_⟩
          · rw [if_neg (not_not_intro (none_t (not_f b64)))] at h
            refine ⟨b64, ?_⟩
            refine ⟨b64, ?_⟩
            refine ⟨trivial, ?_⟩
            refine ⟨b61, ?_⟩
            refine ⟨b64, ?_⟩
            refine ⟨b61, ?_⟩
            refine ⟨fun b65 => ?_, fun b65 => ?_⟩
            · rw [if_neg (not_not_intro (bne_f b65))] at h
              refine ⟨b65, ?_⟩
              refine ⟨b65, ?_⟩
              refine ⟨trivial, ?_⟩
              refine ⟨b65, ?_⟩
              refine ⟨fun b66 => ?_, fun b66 => ?_⟩
              · rw [if_pos (bne_t b66)] at h
                refine ⟨b66, ?_⟩
                refine ⟨b66, ?_⟩
                refine ⟨trivial, ?_⟩
                refine ⟨b66, ?_⟩
                refine ⟨fun b67 => ?_, fun b67 => ?_⟩
                · rw [if_neg (not_not_intro (bne_f b67))] at h
                  refine ⟨b67, ?_⟩
                  obtain ⟨t68, ht68, h⟩ := of_bind h
                  refine ⟨t68, ⟨num.fun_ ht68, trivial⟩, ?_⟩
                  refine ⟨b67, ?_⟩
                  refine ⟨b67, ?_⟩
                  obtain ⟨t69, ht69, h⟩ := of_bind h
                  refine ⟨t69, ⟨num.fun_ ht69, trivial⟩, ?_⟩
                  refine ⟨b67, ?_⟩
                  refine ⟨trivial, ?_⟩
                  refine ⟨b66, ?_⟩
                  refine ⟨b67, ?_⟩
                  refine ⟨b65, ?_⟩
                  refine ⟨b66, ?_⟩
                  refine ⟨b65, ?_⟩
                  refine ⟨fun b70 => ?_, fun b70 => ?_⟩
                  · rw [if_neg (not_not_intro (bne_f b70))] at h
                    refine ⟨b70, ?_⟩
                    refine ⟨b70, ?_⟩
                    refine ⟨trivial, ?_⟩
                    refine ⟨b70, ?_⟩
                    refine ⟨fun b71 => ?_, fun b71 => ?_⟩
                    · rw [if_pos (of_decide_eq_true b71)] at h
                      refine ⟨b71, ?_⟩
                      refine ⟨trivial, ?_⟩
                      refine ⟨b70, ?_⟩
                      refine ⟨b71, ?_⟩
                      refine ⟨b70, ?_⟩
                      refine ⟨fun b72 => ?_, fun b72 => ?_⟩
                      · rw [if_pos (none_f (not_t b72))] at h
                        refine ⟨trivial, ?_⟩
                        obtain rfl := Option.some.inj h
                        exact ⟨⟨trivial, trivial, trivial⟩, rfl, rfl⟩
                      · rw [if_neg (not_not_intro (none_t (not_f b72)))] at h
                        refine ⟨trivial, ?_⟩
                        refine ⟨trivial, ?_⟩
                        refine ⟨trivial, ?_⟩
                        exact ⟨⟨trivial, trivial, trivial⟩, halterlaw20_FdsKeeps.l1_ok t15 t23 a1 n (IntKind.wrap .i64 (x30 + (1 : Int))) r h⟩
                    · rw [if_neg (of_decide_eq_false b71)] at h
                      refine ⟨b71, ?_⟩
                      refine ⟨b70, ?_⟩
                      refine ⟨b71, ?_⟩
                      refine ⟨b70, ?_⟩
                      refine ⟨rfl, ?_⟩
                      refine ⟨trivial, ?_⟩
                      refine ⟨trivial, ?_⟩
                      refine ⟨trivial, ?_⟩
                      exact ⟨⟨trivial, trivial, trivial⟩, halterlaw20_FdsKeeps.l1_ok t15 t23 a1 n (IntKind.wrap .i64 (x30 + (1 : Int))) r h⟩
                  · rw [if_pos (bne_t b70)] at h
                    refine ⟨b70, ?_⟩
                    refine ⟨b70, ?_⟩
                    refine ⟨b70, ?_⟩
                    refine ⟨b70, ?_⟩
                    refine ⟨b70, ?_⟩
                    refine ⟨rfl, ?_⟩
                    refine ⟨trivial, ?_⟩
                    obtain rfl := Option.some.inj h
                    exact ⟨⟨trivial, trivial, trivial⟩, rfl, rfl⟩
                · rw [if_pos (bne_t b67)] at h
                  refine ⟨b67, ?_⟩
                  refine ⟨b67, ?_⟩
                  refine ⟨b67, ?_⟩
                  refine ⟨b67, ?_⟩
                  refine ⟨b66, ?_⟩
                  refine ⟨b67, ?_⟩
                  refine ⟨b65, ?_⟩
                  refine ⟨b66, ?_⟩
                  refine ⟨b65, ?_⟩
                  refine ⟨rfl, ?_⟩
                  refine ⟨rfl, ?_⟩
                  refine ⟨rfl, ?_⟩
                  refine ⟨rfl, ?_⟩
                  refine ⟨rfl, ?_⟩
                  refine ⟨rfl, ?_⟩
                  refine ⟨rfl, ?_⟩
                  refine ⟨trivial, ?_⟩
                  obtain rfl := Option.some.inj h
                  exact ⟨⟨trivial, trivial, trivial⟩, rfl, rfl⟩
              · rw [if_neg (not_not_intro (bne_f b66))] at h
                refine ⟨b66, ?_⟩
                refine ⟨b66, ?_⟩
                refine ⟨b66, ?_⟩
                refine ⟨b66, ?_⟩
                refine ⟨b65, ?_⟩
                refine ⟨b66, ?_⟩
                refine ⟨b65, ?_⟩
                refine ⟨rfl, ?_⟩
                refine ⟨rfl, ?_⟩
                refine ⟨rfl, ?_⟩
                refine ⟨trivial, ?_⟩
                refine ⟨rfl, ?_⟩
                refine ⟨fun b73 => ?_, fun b73 => ?_⟩
                · rw [if_pos (of_decide_eq_true b73)] at h
                  refine ⟨b73, ?_⟩
                  refine ⟨trivial, ?_⟩
                  refine ⟨rfl, ?_⟩
                  refine ⟨b73, ?_⟩
                  refine ⟨rfl, ?_⟩
                  refine ⟨fun b74 => ?_, fun b74 => ?_⟩
                  · rw [if_pos (none_f (not_t b74))] at h
                    refine ⟨trivial, ?_⟩
                    obtain rfl := Option.some.inj h
                    exact ⟨⟨trivial, trivial, trivial⟩, rfl, rfl⟩
                  · rw [if_neg (not_not_intro (none_t (not_f b74)))] at h
                    refine ⟨trivial, ?_⟩
                    refine ⟨trivial, ?_⟩
                    refine ⟨trivial, ?_⟩
                    exact ⟨⟨trivial, trivial, trivial⟩, halterlaw20_FdsKeeps.l1_ok t15 t23 a1 n (IntKind.wrap .i64 (x30 + (1 : Int))) r h⟩
                · rw [if_neg (of_decide_eq_false b73)] at h
                  refine ⟨b73, ?_⟩
                  refine ⟨rfl, ?_⟩
                  refine ⟨b73, ?_⟩
                  refine ⟨rfl, ?_⟩
                  refine ⟨rfl, ?_⟩
                  refine ⟨trivial, ?_⟩
                  refine ⟨trivial, ?_⟩
                  refine ⟨trivial, ?_⟩
                  exact ⟨⟨trivial, trivial, trivial⟩, halterlaw20_FdsKeeps.l1_ok t15 t23 a1 n (IntKind.wrap .i64 (x30 + (1 : Int))) r h⟩
            · rw [if_pos (bne_t b65)] at h
              refine ⟨b65, ?_⟩
              refine ⟨b65, ?_⟩
              refine ⟨b65, ?_⟩
              refine ⟨b65, ?_⟩
              refine ⟨b65, ?_⟩
              refine ⟨rfl, ?_⟩
              refine ⟨rfl, ?_⟩
              refine ⟨rfl, ?_⟩
              refine ⟨rfl, ?_⟩
              refine ⟨rfl, ?_⟩
              refine ⟨rfl, ?_⟩
              refine ⟨rfl, ?_⟩
              refine ⟨trivial, ?_⟩
              obtain rfl := Option.some.inj h
              exact ⟨⟨trivial, trivial, trivial⟩, rfl, rfl⟩
          · rw [if_pos (none_f (not_t b64))] at h
            refine ⟨b64, ?_⟩
            refine ⟨b64, ?_⟩
            refine ⟨b61, ?_⟩
            refine ⟨b64, ?_⟩
            refine ⟨b61, ?_⟩
            refine ⟨rfl, ?_⟩
            refine ⟨rfl, ?_⟩
            refine ⟨rfl, ?_⟩
            refine ⟨rfl, ?_⟩
            refine ⟨rfl, ?_⟩
            refine ⟨rfl, ?_⟩
            refine ⟨rfl, ?_⟩
            refine ⟨rfl, ?_⟩
            refine ⟨rfl, ?_⟩
            refine ⟨rfl, ?_⟩
            refine ⟨rfl, ?_⟩
            refine ⟨rfl, ?_⟩
            refine ⟨rfl, ?_⟩
            refine ⟨trivial, ?_⟩
            obtain rfl := Option.some.inj h
            exact ⟨⟨trivial, trivial, trivial⟩, rfl, rfl⟩
        · rw [if_pos (bne_t b63)] at h
          refine ⟨b63, ?_⟩
          refine ⟨b61, ?_⟩
          refine ⟨b63, ?_⟩
          refine ⟨b61, ?_⟩
          refine ⟨rfl, ?_⟩
          refine ⟨rfl, ?_⟩
          refine ⟨rfl, ?_⟩
          refine ⟨b61, ?_⟩
          refine ⟨rfl, ?_⟩
          refine ⟨b61, ?_⟩
          refine ⟨rfl, ?_⟩
          refine ⟨rfl, ?_⟩
          refine ⟨rfl, ?_⟩
          refine ⟨rfl, ?_⟩
          refine ⟨rfl, ?_⟩
          refine ⟨rfl, ?_⟩
          refine ⟨rfl, ?_⟩
          refine ⟨rfl, ?_⟩
          refine ⟨rfl, ?_⟩
          refine ⟨rfl, ?_⟩
          refine ⟨rfl, ?_⟩
          refine ⟨rfl, ?_⟩
          refine ⟨rfl, ?_⟩
          refine ⟨trivial, ?_⟩
          obtain rfl := Option.some.inj h
          exact ⟨⟨trivial, trivial, trivial⟩, rfl, rfl⟩
      · rw [if_neg (beq_f b61)] at h
        refine ⟨b61, ?_⟩
        refine ⟨b61, ?_⟩
        refine ⟨b61, ?_⟩
        refine ⟨b61, ?_⟩
        refine ⟨b61, ?_⟩
        refine ⟨b61, ?_⟩
        refine ⟨b61, ?_⟩
        refine ⟨rfl, ?_⟩
        refine ⟨rfl, ?_⟩
        refine ⟨rfl, ?_⟩
        refine ⟨trivial, ?_⟩
        refine ⟨rfl, ?_⟩
        refine ⟨fun b75 => ?_, fun b75 => ?_⟩
        · rw [if_pos (bne_t b75)] at h
          refine ⟨b75, ?_⟩
          refine ⟨b75, ?_⟩
          refine ⟨trivial, ?_⟩
          refine ⟨b75, ?_⟩
          refine ⟨fun b76 => ?_, fun b76 => ?_⟩
          · rw [if_neg (not_not_intro (bne_f b76))] at h
            refine ⟨b76, ?_⟩
            obtain ⟨t77, ht77, h⟩ := of_bind h
            refine ⟨t77, ⟨num.fun_ ht77, trivial⟩, ?_⟩
            refine ⟨b76, ?_⟩
            refine ⟨b76, ?_⟩
            obtain ⟨t78, ht78, h⟩ := of_bind h
            refine ⟨t78, ⟨num.fun_ ht78, trivial⟩, ?_⟩
            refine ⟨b76, ?_⟩
            refine ⟨trivial, ?_⟩
            refine ⟨b75, ?_⟩
            refine ⟨b76, ?_⟩
            refine ⟨rfl, ?_⟩
            refine ⟨b75, ?_⟩
            refine ⟨rfl, ?_⟩
            refine ⟨fun b79 => ?_, fun b79 => ?_⟩
            · rw [if_neg (not_not_intro (bne_f b79))] at h
              refine ⟨b79, ?_⟩
              refine ⟨b79, ?_⟩
              refine ⟨trivial, ?_⟩
              refine ⟨b79, ?_⟩
              refine ⟨fun b80 => ?_, fun b80 => ?_⟩
              · rw [if_pos (of_decide_eq_true b80)] at h
                refine ⟨b80, ?_⟩
                refine ⟨trivial, ?_⟩
                refine ⟨b79, ?_⟩
                refine ⟨b80, ?_⟩
                refine ⟨b79, ?_⟩
                refine ⟨fun b81 => ?_, fun b81 => ?_⟩
                · rw [if_pos (none_f (not_t b81))] at h
                  refine ⟨trivial, ?_⟩
                  obtain rfl := Option.some.inj h
                  exact ⟨⟨trivial, trivial, trivial⟩, rfl, rfl⟩
                · rw [if_neg (not_not_intro (none_t (not_f b81)))] at h
                  refine ⟨trivial, ?_⟩
                  refine ⟨trivial, ?_⟩
                  refine ⟨trivial, ?_⟩
                  exact ⟨⟨trivial, trivial, trivial⟩, halterlaw20_FdsKeeps.l1_ok t15 t23 a1 n (IntKind.wrap .i64 (x30 + (1 : Int))) r h⟩
              · rw [if_neg (of_decide_eq_false b80)] at h
                refine ⟨b80, ?_⟩
                refine ⟨b79, ?_⟩
                refine ⟨b80, ?_⟩
                refine ⟨b79, ?_⟩
                refine ⟨rfl, ?_⟩
                refine ⟨trivial, ?_⟩
                refine ⟨trivial, ?_⟩
                refine ⟨trivial, ?_⟩
                exact ⟨⟨trivial, trivial, trivial⟩, halterlaw20_FdsKeeps.l1_ok t15 t23 a1 n (IntKind.wrap .i64 (x30 + (1 : Int))) r h⟩
            · rw [if_pos (bne_t b79)] at h
              refine ⟨b79, ?_⟩
              refine ⟨b79, ?_⟩
              refine ⟨b79, ?_⟩
              refine ⟨b79, ?_⟩
              refine ⟨b79, ?_⟩
              refine ⟨rfl, ?_⟩
              refine ⟨trivial, ?_⟩
              obtain rfl := Option.some.inj h
              exact ⟨⟨trivial, trivial, trivial⟩, rfl, rfl⟩
          · rw [if_pos (bne_t b76)] at h
            refine ⟨b76, ?_⟩
            refine ⟨b76, ?_⟩
            refine ⟨b76, ?_⟩
            refine ⟨b76, ?_⟩
            refine ⟨b75, ?_⟩
            refine ⟨b76, ?_⟩
            refine ⟨rfl, ?_⟩
            refine ⟨b75, ?_⟩
            refine ⟨rfl, ?_⟩
            refine ⟨rfl, ?_⟩
            refine ⟨rfl, ?_⟩
            refine ⟨rfl, ?_⟩
            refine ⟨rfl, ?_⟩
            refine ⟨rfl, ?_⟩
            refine ⟨rfl, ?_⟩
            refine ⟨rfl, ?_⟩
            refine ⟨trivial, ?_⟩
            obtain rfl := Option.some.inj h
            exact ⟨⟨trivial, trivial, trivial⟩, rfl, rfl⟩
        · rw [if_neg (not_not_intro (bne_f b75))] at h
          refine ⟨b75, ?_⟩
          refine ⟨b75, ?_⟩
          refine ⟨b75, ?_⟩
          refine ⟨b75, ?_⟩
          refine ⟨rfl, ?_⟩
          refine ⟨b75, ?_⟩
          refine ⟨rfl, ?_⟩
          refine ⟨rfl, ?_⟩
          refine ⟨rfl, ?_⟩
          refine ⟨rfl, ?_⟩
          refine ⟨trivial, ?_⟩
          refine ⟨rfl, ?_⟩
          refine ⟨fun b82 => ?_, fun b82 => ?_⟩
          · rw [if_pos (of_decide_eq_true b82)] at h
            refine ⟨b82, ?_⟩
            refine ⟨trivial, ?_⟩
            refine ⟨rfl, ?_⟩
            refine ⟨b82, ?_⟩
            refine ⟨rfl, ?_⟩
            refine ⟨fun b83 => ?_, fun b83 => ?_⟩
            · rw [if_pos (none_f (not_t b83))] at h
              refine ⟨trivial, ?_⟩
              obtain rfl := Option.some.inj h
              exact ⟨⟨trivial, trivial, trivial⟩, rfl, rfl⟩
            · rw [if_neg (not_not_intro (none_t (not_f b83)))] at h
              refine ⟨trivial, ?_⟩
              refine ⟨trivial, ?_⟩
              refine ⟨trivial, ?_⟩
              exact ⟨⟨trivial, trivial, trivial⟩, halterlaw20_FdsKeeps.l1_ok t15 t23 a1 n (IntKind.wrap .i64 (x30 + (1 : Int))) r h⟩
          · rw [if_neg (of_decide_eq_false b82)] at h
            refine ⟨b82, ?_⟩
            refine ⟨rfl, ?_⟩
            refine ⟨b82, ?_⟩
            refine ⟨rfl, ?_⟩
            refine ⟨rfl, ?_⟩
            refine ⟨trivial, ?_⟩
            refine ⟨trivial, ?_⟩
            refine ⟨trivial, ?_⟩
            exact ⟨⟨trivial, trivial, trivial⟩, halterlaw20_FdsKeeps.l1_ok t15 t23 a1 n (IntKind.wrap .i64 (x30 + (1 : Int))) r h⟩
    · rw [if_neg (of_decide_eq_false b58)] at h
      obtain rfl := Option.some.inj h
      exact ⟨⟨trivial, trivial, trivial⟩, rfl, rfl⟩
def halterlaw20_FdsKeeps.f (a0 : (List Int)) (a1 : Int) : Option Bool :=
  (halterlaw20_FdsKeeps.l0 a1 FUEL a0 (0 : Int)).bind fun t15 =>
  (fds_Put.f t15 (IntKind.wrap .i64 ((Int.tmod (IntKind.wrap .u64 (a1)) (32 : Int))))).bind fun t23 =>
  if ¬ (t23.2.2 = none) then
    (num.f t23.2.2).bind fun t25 =>
    if t25 = (24 : Int) then
      (fds_Free.f t15).bind fun t27 =>
      if t27 = (0 : Int) then
        halterlaw20_sure.f.bind fun t29 =>
        some t29
      else
        some false
    else
      some false
  else
    (halterlaw20_FdsKeeps.l1 t15 t23 a1 FUEL (0 : Int)).bind fun t57 =>
    match t57 with
    | .inl t84 =>
      (fds_Drop.f t23.2.1 t23.1).bind fun t85 =>
      if t85.2.2 = none then
        if t85.1 = (IntKind.wrap .i64 ((Int.tmod (IntKind.wrap .u64 (a1)) (32 : Int)))) then
          if t85.2.1 = t15 then
            halterlaw20_sure.f.bind fun t89 =>
            some t89
          else
            some false
        else
          some false
      else
        some false
    | .inr t90 =>
      some false
def halterlaw20_FdsKeeps.R (r : Bool) : Tm := .v (.one (.sc (.bool r)))
theorem halterlaw20_FdsKeeps.fun_ {a0 : (List Int)} {a1 : Int} {r : Bool} (h : halterlaw20_FdsKeeps.f a0 a1 = some r) : Fun cfg 4 [.agg [.row 8 (.int .i64) a0], .one (.sc (.int .i64 a1))] [] (halterlaw20_FdsKeeps.R r) [] := by
  unfold halterlaw20_FdsKeeps.f at h
  refine fun_of_run cfg_ok (f := 4) (fn := Tryd.f4) Tryd.func4 rfl (by kernel_rfl) (rs := [.tmp 4]) rfl (nt := 138) rfl (l := fin) (k := (.adj [] (.adj [] (.adj [.keep [1, 2, 5]] (.sub ((List Int)) (fun _ => (.exit 0)) (fun t15 => ⟨[.any, .v (.one (.sc (.int .i64 a1))), .v (.one (.ptr 0 ⟨0, 0, 0, 0⟩)), .any, .any, .any, .any, .any, .any, .any, .any, .any, .any, .any, .any, .any, .any, .any, .any, .any, .any, .any, .any, .any, .any, .any, .any, .any, .any, .any, .any, .any, .any, .any, .any, .any, .any, .any, .any, .any, .any, .any, .any, .any, .any, .any, .any, .any, .any, .any, .any, .any, .any, .any, .any, .any, .any, .any, .any, .any, .any, .any, .any, .any, .any, .any, .any, .any, .any, .any, .any, .any, .any, .any, .any, .any, .any, .any, .any, .any, .any, .any, .any, .any, .any, .any, .any, .any, .any, .any, .any, .any, .any, .any, .any, .any, .any, .any, .any, .any, .any, .any, .any, .any, .any, .any, .any, .any, .any, .any, .any, .any, .any, .any, .any, .any, .any, .any, .any, .any, .any, .any, .any, .any, .any, .any, .any, .any, .any, .any, .any, .any, .any, .any, .any, .any, .any, .any], [.ex false [.row 8 (.int .i64) t15] 22], 0⟩) (fun t15 => (.call true [] (Int × (List Int) × (Option Int)) (fun t23 => fds_Put.R t23) (fun t23 => (.br (.call true [] (Int) (fun t25 => num.R t25) (fun t25 => (.br (.one true (.call true [] (Int) (fun t27 => fds_Free.R t27) (fun t27 => (.one true (.one true (.br (.call true [] (Bool) (fun t29 => halterlaw20_sure.R t29) (fun t29 => (.one true (.adj [] (.adj [.drop 0] .nil))))) (.one false (.adj [] (.adj [.drop 0] .nil))))))))) (.one false (.one false (.one false (.one false (.one false (.adj [] (.adj [.drop 0] .nil)))))))))) (.adj [] (.adj [] (.adj [.keep [6, 7, 8, 9, 11]] (.alt (.sub (Unit) (fun _ => (.exit 2)) (fun t84 => ⟨[.any, .any, .any, .any, .any, .any, .v (.one (.ptr 1 ⟨0, 0, 0, 0⟩)), .v (.one (.sc (.int .i64 (IntKind.wrap .i64 ((Int.tmod (IntKind.wrap .u64 (a1)) (32 : Int))))))), .v (.one (.sc (.int .i64 t23.1))), .v (.one (.ptr 2 ⟨0, 0, 0, 0⟩)), .any, .any, .any, .any, .any, .any, .any, .any, .any, .any, .any, .any, .any, .any, .any, .any, .any, .any, .any, .any, .any, .any, .any, .any, .any, .any, .any, .any, .any, .any, .any, .any, .any, .any, .any, .any, .any, .any, .any, .any, .any, .any, .any, .any, .any, .any, .any, .any, .any, .any, .any, .any, .any, .any, .any, .any, .any, .any, .any, .any, .any, .any, .any, .any, .any, .any, .any, .any, .any, .any, .any, .any, .any, .any, .any, .any, .any, .any, .any, .any, .any, .any, .any, .any, .any, .any, .any, .any, .any, .any, .any, .any, .any, .any, .any, .any, .any, .any, .any, .any, .any, .any, .any, .any, .any, .any, .any, .any, .any, .any, .any, .any, .any, .any, .any, .any, .any, .any, .any, .any, .any, .any, .any, .any, .any, .any, .any, .any], [.ex false [.row 8 (.int .i64) t15] 22, .ex false [.row 8 (.int .i64) t15] 24, .ex false [.row 8 (.int .i64) t23.2.1] 24], 0⟩) (fun t84 => (.call true [] (Int × (List Int) × (Option Int)) (fun t85 => fds_Drop.R t85) (fun t85 => (.br (.one true (.one true (.one true (.br (.one true (.one true (.one true (.br (.call true [] (Bool) (fun t89 => halterlaw20_sure.R t89) (fun t89 => (.one true (.adj [] (.adj [.drop 0] .nil))))) (.one false (.adj [] (.adj [.drop 0] .nil))))))) (.one false (.one false (.one false (.one false (.one false (.adj [] (.adj [.drop 0] .nil))))))))))) (.one false (.one false (.one false (.one false (.one false (.one false (.one false (.one false (.one false (.adj [] (.adj [.drop 0] .nil)))))))))))))))) (.sub (Unit) (fun _ => .ret) (fun t90 => ⟨[.any, .any, .any, .any, .v (.one (.sc (.bool false))), .any, .any, .any, .any, .any, .any, .any, .any, .any, .any, .any, .any, .any, .any, .any, .any, .any, .any, .any, .any, .any, .any, .any, .any, .any, .any, .any, .any, .any, .any, .any, .any, .any, .any, .any, .any, .any, .any, .any, .any, .any, .any, .any, .any, .any, .any, .any, .any, .any, .any, .any, .any, .any, .any, .any, .any, .any, .any, .any, .any, .any, .any, .any, .any, .any, .any, .any, .any, .any, .any, .any, .any, .any, .any, .any, .any, .any, .any, .any, .any, .any, .any, .any, .any, .any, .any, .any, .any, .any, .any, .any, .any, .any, .any, .any, .any, .any, .any, .any, .any, .any, .any, .any, .any, .any, .any, .any, .any, .any, .any, .any, .any, .any, .any, .any, .any, .any, .any, .any, .any, .any, .any, .any, .any, .any, .any, .any, .any, .any, .any, .any, .any, .any], [.ex false [.row 8 (.int .i64) t15] 22, .ex false [.row 8 (.int .i64) t15] 24, .ex false [.row 8 (.int .i64) t23.2.1] 24], 0⟩) (fun t90 => (.adj [.drop 0] .nil)))))))))))))))) (to_goal (q := (True ∧ (True ∧ (((True) ∧ True) ∧ (∃ t15 : (List Int), Trip cfg (.loop (cpath (Tryd.f4.body.getD .skip) [1, 0, 1, 0, 0])) ⟨[.any, .v (.one (.sc (.int .i64 a1))), .v (.one (.ptr 0 ⟨0, 0, 0, 0⟩)), .any, .any, .v (.one (.sc (.int .i64 (0 : Int)))), .any, .any, .any, .any, .any, .any, .any, .any, .any, .any, .any, .any, .any, .any, .any, .any, .any, .any, .any, .any, .any, .any, .any, .any, .any, .any, .any, .any, .any, .any, .any, .any, .any, .any, .any, .any, .any, .any, .any, .any, .any, .any, .any, .any, .any, .any, .any, .any, .any, .any, .any, .any, .any, .any, .any, .any, .any, .any, .any, .any, .any, .any, .any, .any, .any, .any, .any, .any, .any, .any, .any, .any, .any, .any, .any, .any, .any, .any, .any, .any, .any, .any, .any, .any, .any, .any, .any, .any, .any, .any, .any, .any, .any, .any, .any, .any, .any, .any, .any, .any, .any, .any, .any, .any, .any, .any, .any, .any, .any, .any, .any, .any, .any, .any, .any, .any, .any, .any, .any, .any, .any, .any, .any, .any, .any, .any, .any, .any, .any, .any, .any, .any], [.ex false [.row 8 (.int .i64) a0] 22], 0⟩ (fun e s => e = (.exit 0) ∧ s = ⟨[.any, .v (.one (.sc (.int .i64 a1))), .v (.one (.ptr 0 ⟨0, 0, 0, 0⟩)), .any, .any, .any, .any, .any, .any, .any, .any, .any, .any, .any, .any, .any, .any, .any, .any, .any, .any, .any, .any, .any, .any, .any, .any, .any, .any, .any, .any, .any, .any, .any, .any, .any, .any, .any, .any, .any, .any, .any, .any, .any, .any, .any, .any, .any, .any, .any, .any, .any, .any, .any, .any, .any, .any, .any, .any, .any, .any, .any, .any, .any, .any, .any, .any, .any, .any, .any, .any, .any, .any, .any, .any, .any, .any, .any, .any, .any, .any, .any, .any, .any, .any, .any, .any, .any, .any, .any, .any, .any, .any, .any, .any, .any, .any, .any, .any, .any, .any, .any, .any, .any, .any, .any, .any, .any, .any, .any, .any, .any, .any, .any, .any, .any, .any, .any, .any, .any, .any, .any, .any, .any, .any, .any, .any, .any, .any, .any, .any, .any, .any, .any, .any, .any, .any, .any], [.ex false [.row 8 (.int .i64) t15] 22], 0⟩) ∧ (True) ∧ (True) ∧ (True) ∧ ((32 : Int) ≠ 0) ∧ (True) ∧ (True) ∧ (∃ t23 : Int × (List Int) × (Option Int), (Fun cfg 6 [.agg [.row 8 (.int .i64) t15], .one (.sc (.int .i64 (IntKind.wrap .i64 ((Int.tmod (IntKind.wrap .u64 (a1)) (32 : Int))))))] [] (fds_Put.R t23) [] ∧ True) ∧ (True) ∧ (True) ∧ (((!(Option.isNone t23.2.2)) = true → (∃ t25 : Int, (Fun cfg 16 [.one (.err t23.2.2)] [] (num.R t25) [] ∧ True) ∧ (True) ∧ (((t25 == (24 : Int)) = true → (True) ∧ ((t25 == (24 : Int)) = true ∧ (∃ t27 : Int, (Fun cfg 19 [.agg [.row 8 (.int .i64) t15]] [] (fds_Free.R t27) [] ∧ True) ∧ ((t25 == (24 : Int)) = true ∧ (True) ∧ ((t25 == (24 : Int)) = true ∧ (((t27 == (0 : Int)) = true → (∃ t29 : Bool, (Fun cfg 21 [] [] (halterlaw20_sure.R t29) [] ∧ True) ∧ ((t27 == (0 : Int)) = true ∧ (True ∧ ((True) ∧ ((True) ∧ True) ∧ (.v (.one (.sc (.bool t29))) : Tm) = halterlaw20_FdsKeeps.R r ∧ ([] : List Box) = []))))) ∧ ((t27 == (0 : Int)) = false → ((t27 == (0 : Int)) = false ∧ (True ∧ ((True) ∧ ((True) ∧ True) ∧ (.v (.one (.sc (.bool false))) : Tm) = halterlaw20_FdsKeeps.R r ∧ ([] : List Box) = [])))))))))) ∧ ((t25 == (24 : Int)) = false → ((t25 == (24 : Int)) = false ∧ ((t25 == (24 : Int)) = false ∧ ((t25 == (24 : Int)) = false ∧ (false = false ∧ (false = false ∧ (True ∧ ((True) ∧ ((True) ∧ True) ∧ (.v (.one (.sc (.bool false))) : Tm) = halterlaw20_FdsKeeps.R r ∧ ([] : List Box) = []))))))))))) ∧ ((!(Option.isNone t23.2.2)) = false → (True ∧ (True ∧ (((True) ∧ True) ∧ ((∃ t84 : Unit, Trip cfg (.loop (cpath (Tryd.f4.body.getD .skip) [1, 1, 1, 1, 1, 1, 0, 1, 0, 0])) ⟨[.any, .any, .any, .any, .any, .any, .v (.one (.ptr 1 ⟨0, 0, 0, 0⟩)), .v (.one (.sc (.int .i64 (IntKind.wrap .i64 ((Int.tmod (IntKind.wrap .u64 (a1)) (32 : Int))))))), .v (.one (.sc (.int .i64 t23.1))), .v (.one (.ptr 2 ⟨0, 0, 0, 0⟩)), .any, .v (.one (.sc (.int .i64 (0 : Int)))), .any, .any, .any, .any, .any, .any, .any, .any, .any, .any, .any, .any, .any, .any, .any, .any, .any, .any, .any, .any, .any, .any, .any, .any, .any, .any, .any, .any, .any, .any, .any, .any, .any, .any, .any, .any, .any, .any, .any, .any, .any, .any, .any, .any, .any, .any, .any, .any, .any, .any, .any, .any, .any, .any, .any, .any, .any, .any, .any, .any, .any, .any, .any, .any, .any, .any, .any, .any, .any, .any, .any, .any, .any, .any, .any, .any, .any, .any, .any, .any, .any, .any, .any, .any, .any, .any, .any, .any, .any, .any, .any, .any, .any, .any, .any, .any, .any, .any, .any, .any, .any, .any, .any, .any, .any, .any, .any, .any, .any, .any, .any, .any, .any, .any, .any, .any, .any, .any, .any, .any, .any, .any, .any, .any, .any, .any], [.ex false [.row 8 (.int .i64) t15] 22, .ex false [.row 8 (.int .i64) t15] 24, .ex false [.row 8 (.int .i64) t23.2.1] 24], 0⟩ (fun e s => e = (.exit 2) ∧ s = ⟨[.any, .any, .any, .any, .any, .any, .v (.one (.ptr 1 ⟨0, 0, 0, 0⟩)), .v (.one (.sc (.int .i64 (IntKind.wrap .i64 ((Int.tmod (IntKind.wrap .u64 (a1)) (32 : Int))))))), .v (.one (.sc (.int .i64 t23.1))), .v (.one (.ptr 2 ⟨0, 0, 0, 0⟩)), .any, .any, .any, .any, .any, .any, .any, .any, .any, .any, .any, .any, .any, .any, .any, .any, .any, .any, .any, .any, .any, .any, .any, .any, .any, .any, .any, .any, .any, .any, .any, .any, .any, .any, .any, .any, .any, .any, .any, .any, .any, .any, .any, .any, .any, .any, .any, .any, .any, .any, .any, .any, .any, .any, .any, .any, .any, .any, .any, .any, .any, .any, .any, .any, .any, .any, .any, .any, .any, .any, .any, .any, .any, .any, .any, .any, .any, .any, .any, .any, .any, .any, .any, .any, .any, .any, .any, .any, .any, .any, .any, .any, .any, .any, .any, .any, .any, .any, .any, .any, .any, .any, .any, .any, .any, .any, .any, .any, .any, .any, .any, .any, .any, .any, .any, .any, .any, .any, .any, .any, .any, .any, .any, .any, .any, .any, .any, .any], [.ex false [.row 8 (.int .i64) t15] 22, .ex false [.row 8 (.int .i64) t15] 24, .ex false [.row 8 (.int .i64) t23.2.1] 24], 0⟩) ∧ (True) ∧ (∃ t85 : Int × (List Int) × (Option Int), (Fun cfg 10 [.agg [.row 8 (.int .i64) t23.2.1], .one (.sc (.int .i64 t23.1))] [] (fds_Drop.R t85) [] ∧ True) ∧ (True) ∧ (True) ∧ (((Option.isNone t85.2.2) = true → ((Option.isNone t85.2.2) = true ∧ ((Option.isNone t85.2.2) = true ∧ (True) ∧ ((Option.isNone t85.2.2) = true ∧ (((t85.1 == (IntKind.wrap .i64 ((Int.tmod (IntKind.wrap .u64 (a1)) (32 : Int))))) = true → (True) ∧ ((t85.1 == (IntKind.wrap .i64 ((Int.tmod (IntKind.wrap .u64 (a1)) (32 : Int))))) = true ∧ (True) ∧ ((t85.1 == (IntKind.wrap .i64 ((Int.tmod (IntKind.wrap .u64 (a1)) (32 : Int))))) = true ∧ (True) ∧ ((t85.1 == (IntKind.wrap .i64 ((Int.tmod (IntKind.wrap .u64 (a1)) (32 : Int))))) = true ∧ ((((intsEq t85.2.1 t15) && true) = true → (∃ t89 : Bool, (Fun cfg 21 [] [] (halterlaw20_sure.R t89) [] ∧ True) ∧ (((intsEq t85.2.1 t15) && true) = true ∧ (True ∧ ((True) ∧ ((True) ∧ True) ∧ (.v (.one (.sc (.bool t89))) : Tm) = halterlaw20_FdsKeeps.R r ∧ ([] : List Box) = []))))) ∧ (((intsEq t85.2.1 t15) && true) = false → (((intsEq t85.2.1 t15) && true) = false ∧ (True ∧ ((True) ∧ ((True) ∧ True) ∧ (.v (.one (.sc (.bool false))) : Tm) = halterlaw20_FdsKeeps.R r ∧ ([] : List Box) = []))))))))) ∧ ((t85.1 == (IntKind.wrap .i64 ((Int.tmod (IntKind.wrap .u64 (a1)) (32 : Int))))) = false → ((t85.1 == (IntKind.wrap .i64 ((Int.tmod (IntKind.wrap .u64 (a1)) (32 : Int))))) = false ∧ ((t85.1 == (IntKind.wrap .i64 ((Int.tmod (IntKind.wrap .u64 (a1)) (32 : Int))))) = false ∧ ((t85.1 == (IntKind.wrap .i64 ((Int.tmod (IntKind.wrap .u64 (a1)) (32 : Int))))) = false ∧ (false = false ∧ (false = false ∧ (True ∧ ((True) ∧ ((True) ∧ True) ∧ (.v (.one (.sc (.bool false))) : Tm) = halterlaw20_FdsKeeps.R r ∧ ([] : List Box) = []))))))))))))) ∧ ((Option.isNone t85.2.2) = false → ((Option.isNone t85.2.2) = false ∧ ((Option.isNone t85.2.2) = false ∧ ((Option.isNone t85.2.2) = false ∧ (false = false ∧ (false = false ∧ (false = false ∧ (false = false ∧ (false = false ∧ (false = false ∧ (True ∧ ((True) ∧ ((True) ∧ True) ∧ (.v (.one (.sc (.bool false))) : Tm) = halterlaw20_FdsKeeps.R r ∧ ([] : List Box) = []))))))))))))))) ∨ (∃ t90 : Unit, Trip cfg (.loop (cpath (Tryd.f4.body.getD .skip) [1, 1, 1, 1, 1, 1, 0, 1, 0, 0])) ⟨[.any, .any, .any, .any, .any, .any, .v (.one (.ptr 1 ⟨0, 0, 0, 0⟩)), .v (.one (.sc (.int .i64 (IntKind.wrap .i64 ((Int.tmod (IntKind.wrap .u64 (a1)) (32 : Int))))))), .v (.one (.sc (.int .i64 t23.1))), .v (.one (.ptr 2 ⟨0, 0, 0, 0⟩)), .any, .v (.one (.sc (.int .i64 (0 : Int)))), .any, .any, .any, .any, .any, .any, .any, .any, .any, .any, .any, .any, .any, .any, .any, .any, .any, .any, .any, .any, .any, .any, .any, .any, .any, .any, .any, .any, .any, .any, .any, .any, .any, .any, .any, .any, .any, .any, .any, .any, .any, .any, .any, .any, .any, .any, .any, .any, .any, .any, .any, .any, .any, .any, .any, .any, .any, .any, .any, .any, .any, .any, .any, .any, .any, .any, .any, .any, .any, .any, .any, .any, .any, .any, .any, .any, .any, .any, .any, .any, .any, .any, .any, .any, .any, .any, .any, .any, .any, .any, .any, .any, .any, .any, .any, .any, .any, .any, .any, .any, .any, .any, .any, .any, .any, .any, .any, .any, .any, .any, .any, .any, .any, .any, .any, .any, .any, .any, .any, .any, .any, .any, .any, .any, .any, .any], [.ex false [.row 8 (.int .i64) t15] 22, .ex false [.row 8 (.int .i64) t15] 24, .ex false [.row 8 (.int .i64) t23.2.1] 24], 0⟩ (fun e s => e = .ret ∧ s = ⟨[.any, .any, .any, .any, .v (.one (.sc (.bool false))), .any, .any, .any, .any, .any, .any, .any, .any, .any, .any, .any, .any, .any, .any, .any, .any, .any, .any, .any, .any, .any, .any, .any, .any, .any, .any, .any, .any, .any, .any, .any, .any, .any, .any, .any, .any, .any, .any, .any, .any, .any, .any, .any, .any, .any, .any, .any, .any, .any, .any, .any, .any, .any, .any, .any, .any, .any, .any, .any, .any, .any, .any, .any, .any, .any, .any, .any, .any, .any, .any, .any, .any, .any, .any, .any, .any, .any, .any, .any, .any, .any, .any, .any, .any, .any, .any, .any, .any, .any, .any, .any, .any, .any, .any, .any, .any, .any, .any, .any, .any, .any, .any, .any, .any, .any, .any, .any, .any, .any, .any, .any, .any, .any, .any, .any, .any, .any, .any, .any, .any, .any, .any, .any, .any, .any, .any, .any, .any, .any, .any, .any, .any, .any], [.ex false [.row 8 (.int .i64) t15] 22, .ex false [.row 8 (.int .i64) t15] 24, .ex false [.row 8 (.int .i64) t23.2.1] 24], 0⟩) ∧ ((True) ∧ ((True) ∧ True) ∧ (.v (.one (.sc (.bool false))) : Tm) = halterlaw20_FdsKeeps.R r ∧ ([] : List Box) = [])))))))))))))) (by kernel_rfl) ?_)
  refine ⟨trivial, ?_⟩
  refine ⟨trivial, ?_⟩
  obtain ⟨t15, ht15, h⟩ := of_bind h
  refine ⟨⟨trivial, trivial⟩, t15, Trip.loop FUEL (halterlaw20_FdsKeeps.l0_ok a1 FUEL a0 (0 : Int) t15 ht15), ?_⟩
  refine ⟨trivial, ?_⟩
  refine ⟨trivial, ?_⟩
  refine ⟨trivial, ?_⟩
  refine ⟨(by decide), ?_⟩
  refine ⟨trivial, ?_⟩
  refine ⟨trivial, ?_⟩
  obtain ⟨t23, ht23, h⟩ := of_bind h
  refine ⟨t23, ⟨fds_Put.fun_ ht23, trivial⟩, ?_⟩
  refine ⟨trivial, ?_⟩
  refine ⟨trivial, ?_⟩
  refine ⟨fun b24 => ?_, fun b24 => ?_⟩
  · rw [if_pos (none_f (not_t b24))] at h
    obtain ⟨t25, ht25, h⟩ := of_bind h
    refine ⟨t25, ⟨num.fun_ ht25, trivial⟩, ?_⟩
    refine ⟨trivial, ?_⟩
    refine ⟨fun b26 => ?_, fun b26 => ?_⟩
    · rw [if_pos (beq_t b26)] at h
      refine ⟨trivial, ?_⟩
      refine ⟨b26, ?_⟩
      obtain ⟨t27, ht27, h⟩ := of_bind h
      refine ⟨t27, ⟨fds_Free.fun_ ht27, trivial⟩, ?_⟩
      refine ⟨b26, ?_⟩
      refine ⟨trivial, ?_⟩
      refine ⟨b26, ?_⟩
      refine ⟨fun b28 => ?_, fun b28 => ?_⟩
      · rw [if_pos (beq_t b28)] at h
        obtain ⟨t29, ht29, h⟩ := of_bind h
        refine ⟨t29, ⟨halterlaw20_sure.fun_ ht29, trivial⟩, ?_⟩
        refine ⟨b28, ?_⟩
        refine ⟨trivial, ?_⟩
        obtain rfl := Option.some.inj h
        exact ⟨trivial, ⟨trivial, trivial⟩, rfl, rfl⟩
      · rw [if_neg (beq_f b28)] at h
        refine ⟨b28, ?_⟩
        refine ⟨trivial, ?_⟩
        obtain rfl := Option.some.inj h
        exact ⟨trivial, ⟨trivial, trivial⟩, rfl, rfl⟩
    · rw [if_neg (beq_f b26)] at h
      refine ⟨b26, ?_⟩
      refine ⟨b26, ?_⟩
      refine ⟨b26, ?_⟩
      refine ⟨rfl, ?_⟩
      refine ⟨rfl, ?_⟩
      refine ⟨trivial, ?_⟩
      obtain rfl := Option.some.inj h
      exact ⟨trivial, ⟨trivial, trivial⟩, rfl, rfl⟩
  · rw [if_neg (not_not_intro (none_t (not_f b24)))] at h
    refine ⟨trivial, ?_⟩
    refine ⟨trivial, ?_⟩
    obtain ⟨t57, ht57, h⟩ := of_bind h
    refine ⟨⟨trivial, trivial⟩, ?_⟩
    rcases t57 with t84 | t90
    · dsimp only at h
      left
      refine ⟨t84, Trip.loop FUEL (halterlaw20_FdsKeeps.l1_ok t15 t23 a1 FUEL (0 : Int) (.inl t84) ht57), ?_⟩
      refine ⟨trivial, ?_⟩
      obtain ⟨t85, ht85, h⟩ := of_bind h
      refine ⟨t85, ⟨fds_Drop.fun_ ht85, trivial⟩, ?_⟩
      refine ⟨trivial, ?_⟩
      refine ⟨trivial, ?_⟩
      refine ⟨fun b86 => ?_, fun b86 => ?_⟩
      · rw [if_pos (none_t b86)] at h
        refine ⟨b86, ?_⟩
        refine ⟨b86, ?_⟩
        refine ⟨trivial, ?_⟩
        refine ⟨b86, ?_⟩
        refine ⟨fun b87 => ?_, fun b87 => ?_⟩
        · rw [if_pos (beq_t b87)] at h
          refine ⟨trivial, ?_⟩
          refine ⟨b87, ?_⟩
          refine ⟨trivial, ?_⟩
          refine ⟨b87, ?_⟩
          refine ⟨trivial, ?_⟩
          refine ⟨b87, ?_⟩
          refine ⟨fun b88 => ?_, fun b88 => ?_⟩
          · rw [if_pos (ints_t (and_l b88))] at h
            obtain ⟨t89, ht89, h⟩ := of_bind h
            refine ⟨t89, ⟨halterlaw20_sure.fun_ ht89, trivial⟩, ?_⟩
            refine ⟨b88, ?_⟩
            refine ⟨trivial, ?_⟩
            obtain rfl := Option.some.inj h
            exact ⟨trivial, ⟨trivial, trivial⟩, rfl, rfl⟩
          · rw [if_neg (ints_f (and_l0 b88))] at h
            refine ⟨b88, ?_⟩
            refine ⟨trivial, ?_⟩
            obtain rfl := Option.some.inj h
            exact ⟨trivial, ⟨trivial, trivial⟩, rfl, rfl⟩
        · rw [if_neg (beq_f b87)] at h
          refine ⟨b87, ?_⟩
          refine ⟨b87, ?_⟩
          refine ⟨b87, ?_⟩
          refine ⟨rfl, ?_⟩
          refine ⟨rfl, ?_⟩
          refine ⟨trivial, ?_⟩
          obtain rfl := Option.some.inj h
          exact ⟨trivial, ⟨trivial, trivial⟩, rfl, rfl⟩
      · rw [if_neg (none_f b86)] at h
        refine ⟨b86, ?_⟩
        refine ⟨b86, ?_⟩
        refine ⟨b86, ?_⟩
        refine ⟨rfl, ?_⟩
        refine ⟨rfl, ?_⟩
        refine ⟨rfl, ?_⟩
        refine ⟨rfl, ?_⟩
        refine ⟨rfl, ?_⟩
        refine ⟨rfl, ?_⟩
        refine ⟨trivial, ?_⟩
        obtain rfl := Option.some.inj h
        exact ⟨trivial, ⟨trivial, trivial⟩, rfl, rfl⟩
    · dsimp only at h
      right
      refine ⟨t90, Trip.loop FUEL (halterlaw20_FdsKeeps.l1_ok t15 t23 a1 FUEL (0 : Int) (.inr t90) ht57), ?_⟩
      obtain rfl := Option.some.inj h
      exact ⟨trivial, ⟨trivial, trivial⟩, rfl, rfl⟩
end Go.Proofs.YtbpaijnlapedlaaDoorGFdsKeeps
