/- Printed by gen.py: what functions of the program compute, in plain Lean, and that they do. -/
import Derived.Test.YtbpaijnlapedlaaDoorE15
import Derived.Test.YtbpaijnlapedlaaDoorN
set_option linter.unusedVariables false
set_option maxRecDepth 100000
namespace Go.Proofs.YtbpaijnlapedlaaDoorGFdsDoubles
open Go Go.Proofs.YtbpaijnlapedlaaDoorE
def tiL : List (Nat × TI) := [
  (3, ⟨1, 8, false, .int .i64, [.c (.sc (.int .i64 (0 : Int)))], some (.int .i64)⟩),
  (4, ⟨1, 1, false, .bool, [.c (.sc (.bool false))], some .bool⟩),
  (22, ⟨8, 64, true, (.array 8 3), [.row 8 (.int .i64) (List.replicate 8 (0 : Int))], some (.arr 8 (.int .i64))⟩),
  (24, ⟨8, 64, true, (.struct [(0, 22)]), [.row 8 (.int .i64) (List.replicate 8 (0 : Int))], some (.arr 8 (.int .i64))⟩),
  (26, ⟨1, 16, false, .iface, [.c (.err none)], none⟩),
  (36, ⟨1, 24, false, (.slice 3), [.c (.sc (.slice none 0 0))], some (.sl (.int .i64))⟩),
  (45, ⟨1, 8, false, .int .u64, [.c (.sc (.int .u64 (0 : Int)))], some (.int .u64)⟩),
  (47, ⟨1, 8, false, .int .i64, [.c (.sc (.int .i64 (0 : Int)))], some (.int .i64)⟩)]
noncomputable def cfg : Cfg := ⟨Tryd.prog, 47, [(⟨0, 0, none⟩, .iface 64 (.agg #[.pointer (some ⟨1, 26, none⟩)]))], tiL, []⟩
theorem cfg_ok : COk cfg := by
  refine ⟨fun p hp => ?_, by kernel_rfl, fun p hp => ?_, fun t ht => ?_⟩
  · simp only [cfg, tiL, List.mem_cons, List.not_mem_nil, or_false] at hp
    rcases hp with rfl | rfl | rfl | rfl | rfl | rfl | rfl | rfl <;> exact ⟨by kernel_rfl, by kernel_rfl, by kernel_rfl, by kernel_rfl, by kernel_rfl, by kernel_rfl⟩
  · simp only [cfg, tiL, List.mem_cons, List.not_mem_nil, or_false] at hp
    rcases hp with rfl | rfl | rfl | rfl | rfl | rfl | rfl | rfl <;> intro fs hfs bl hbl
    · cases hfs
    · cases hfs
    · cases hfs
    · cases hfs
      have e : fieldsZ cfg.L 0 [(0, 22)] = some [[.row 8 (.int .i64) (List.replicate 8 (0 : Int))]] := by kernel_rfl
      rw [e] at hbl
      cases hbl
      exact (by kernel_rfl : encPs (List.flatten [[.row 8 (.int .i64) (List.replicate 8 (0 : Int))]]) = encPs [.row 8 (.int .i64) (List.replicate 8 (0 : Int))])
    · cases hfs
    · cases hfs
    · cases hfs
    · cases hfs
  · cases ht
def fin : Scr → List Adj
  | .adj l _ => l
  | _ => []
/-! the error's number -/
def num.f (a0 : Option Int) : Option Int := some (a0.getD 0)
def num.R (r : Int) : Tm := .v (.one (.sc (.int .i64 r)))
theorem num.fun_ {a0 : Option Int} {r : Int} (h : num.f a0 = some r) : Fun cfg 16 [.one (.err a0)] [] (num.R r) [] := by
  refine Fun.of_below (f := 16) (fn := Tryd.f16) Tryd.func16 rfl (by kernel_rfl) (r := .int .i64 r) (fun X => ⟨⟨rfl, rfl⟩, rfl⟩) fun X vs hE hvs hG => ?_
  obtain ⟨v, us, rfl, hv, rfl⟩ := hvs
  have hv : v = errV X.E a0 := hv.1
  have he : errV cfg.E a0 = YtbpaijnlapedlaaDoorN.errW a0 := by cases a0 <;> rfl
  rw [hv, hE, he]
  exact YtbpaijnlapedlaaDoorN.num.calls a0 r X.w (hG _ (List.mem_cons_self ..)) h
/-! halter/fds.Check -/
def fds_Check.l0 (a0 : (List Int)) : Nat → Int → Option ((Unit) ⊕ (Unit))
  | 0, _ => none
  | n + 1, x1 =>
    if x1 < (8 : Int) then
      if 0 ≤ x1 ∧ x1 < ((8 : Nat) : Int) then
        if (List.getD a0 (Int.toNat x1) (0 : Int)) < (0 : Int) then
          some (.inr ())
        else
          if (List.getD a0 (Int.toNat x1) (0 : Int)) > (32 : Int) then
            some (.inr ())
          else
            fds_Check.l0 a0 n (IntKind.wrap .i64 (x1 + (1 : Int)))
      else none
    else
      some (.inl ())
def fds_Check.l0_S (a0 : (List Int)) (x1 : Int) : St := ⟨[.any, .any, .any, .any, .any, .any, .v (.agg [.row 8 (.int .i64) a0]), .v (.one (.sc (.int .i64 x1))), .any, .any, .any, .any, .any, .any, .any, .any, .any, .any], [.ex false [.row 8 (.int .i64) a0] 24], 0⟩
def fds_Check.l0_Q (a0 : (List Int)) : (Unit) ⊕ (Unit) → Exit → St → Prop
  | .inl t => fun e s => e = (.exit 0) ∧ s = ⟨[.any, .any, .any, .any, .any, .any, .any, .any, .any, .any, .any, .any, .any, .any, .any, .any, .any, .any], [.ex false [.row 8 (.int .i64) a0] 24], 0⟩
  | .inr t => fun e s => e = .ret ∧ s = ⟨[.any, .any, .v (.one (.err (some (22 : Int)))), .any, .any, .any, .any, .any, .any, .any, .any, .any, .any, .any, .any, .any, .any, .any], [.ex false [.row 8 (.int .i64) a0] 24], 0⟩
theorem fds_Check.l0_ok (a0 : (List Int)) : ∀ (n : Nat) (x1 : Int) (r : (Unit) ⊕ (Unit)), fds_Check.l0 a0 n x1 = some r → TripN cfg (cpath (Tryd.f20.body.getD .skip) [1, 0, 1, 0, 0]) n (fds_Check.l0_S a0 x1) (fds_Check.l0_Q a0 r)
  | 0, _, r, h => by cases h
  | n + 1, x1, r, h => by
    rw [fds_Check.l0] at h
    refine TripN.of_run cfg_ok (k := (.br (.br (.one true (.one true (.one true (.adj [] (.adj [.keep [2], .drop 1] .nil))))) (.one false (.one false (.br (.adj [] (.adj [.keep [2], .drop 1] .nil)) (.adj [] (.adj [] (.adj [.keep [6, 7], .drop 1] .nil))))))) (.adj [.keep [], .drop 1] .nil))) (to_goal (q := (True) ∧ (((decide (x1 < (8 : Int))) = true → (0 ≤ x1 ∧ x1 < ((8 : Nat) : Int)) ∧ (True) ∧ (((decide ((List.getD a0 (Int.toNat x1) (0 : Int)) < (0 : Int))) = false → ((decide ((List.getD a0 (Int.toNat x1) (0 : Int)) < (0 : Int))) = false ∧ (True) ∧ ((decide ((List.getD a0 (Int.toNat x1) (0 : Int)) < (0 : Int))) = false ∧ (((decide ((List.getD a0 (Int.toNat x1) (0 : Int)) > (32 : Int))) = true → (True ∧ (((True) ∧ (True) ∧ True) ∧ fds_Check.l0_Q a0 r .ret ⟨[.any, .any, .v (.one (.err (some (22 : Int)))), .any, .any, .any, .any, .any, .any, .any, .any, .any, .any, .any, .any, .any, .any, .any], [.ex false [.row 8 (.int .i64) a0] 24], 0⟩))) ∧ ((decide ((List.getD a0 (Int.toNat x1) (0 : Int)) > (32 : Int))) = false → (True ∧ (True ∧ (True) ∧ (((True) ∧ (True) ∧ True) ∧ TripN cfg (cpath (Tryd.f20.body.getD .skip) [1, 0, 1, 0, 0]) n (fds_Check.l0_S a0 (IntKind.wrap .i64 (x1 + (1 : Int)))) (fds_Check.l0_Q a0 r))))))))) ∧ ((decide ((List.getD a0 (Int.toNat x1) (0 : Int)) < (0 : Int))) = true → ((decide ((List.getD a0 (Int.toNat x1) (0 : Int)) < (0 : Int))) = true ∧ ((decide ((List.getD a0 (Int.toNat x1) (0 : Int)) < (0 : Int))) = true ∧ (true = true ∧ (True ∧ (((True) ∧ (True) ∧ True) ∧ fds_Check.l0_Q a0 r .ret ⟨[.any, .any, .v (.one (.err (some (22 : Int)))), .any, .any, .any, .any, .any, .any, .any, .any, .any, .any, .any, .any, .any, .any, .any], [.ex false [.row 8 (.int .i64) a0] 24], 0⟩)))))))) ∧ ((decide (x1 < (8 : Int))) = false → (((True) ∧ (True) ∧ True) ∧ fds_Check.l0_Q a0 r (.exit 0) ⟨[.any, .any, .any, .any, .any, .any, .any, .any, .any, .any, .any, .any, .any, .any, .any, .any, .any, .any], [.ex false [.row 8 (.int .i64) a0] 24], 0⟩)))) (by kernel_rfl) ?_)
    refine ⟨trivial, ?_⟩
    refine ⟨fun b7 => ?_, fun b7 => ?_⟩
    · rw [if_pos (of_decide_eq_true b7)] at h
      obtain ⟨g10, h⟩ := of_guard h
      refine ⟨g10, ?_⟩
      refine ⟨trivial, ?_⟩
      refine ⟨fun b8 => ?_, fun b8 => ?_⟩
      · rw [if_neg (of_decide_eq_false b8)] at h
        refine ⟨b8, ?_⟩
        refine ⟨trivial, ?_⟩
        refine ⟨b8, ?_⟩
        refine ⟨fun b9 => ?_, fun b9 => ?_⟩
        · rw [if_pos (of_decide_eq_true b9)] at h
          refine ⟨trivial, ?_⟩
          obtain rfl := Option.some.inj h
          exact ⟨⟨trivial, trivial, trivial⟩, rfl, rfl⟩
        · rw [if_neg (of_decide_eq_false b9)] at h
          refine ⟨trivial, ?_⟩
          refine ⟨trivial, ?_⟩
          refine ⟨trivial, ?_⟩
          exact ⟨⟨trivial, trivial, trivial⟩, fds_Check.l0_ok a0 n (IntKind.wrap .i64 (x1 + (1 : Int))) r h⟩
      · rw [if_pos (of_decide_eq_true b8)] at h
        refine ⟨b8, ?_⟩
        refine ⟨b8, ?_⟩
        refine ⟨rfl, ?_⟩
        refine ⟨trivial, ?_⟩
        obtain rfl := Option.some.inj h
        exact ⟨⟨trivial, trivial, trivial⟩, rfl, rfl⟩
    · rw [if_neg (of_decide_eq_false b7)] at h
      obtain rfl := Option.some.inj h
      exact ⟨⟨trivial, trivial, trivial⟩, rfl, rfl⟩
def fds_Check.f (a0 : (List Int)) : Option (Option Int) :=
  (fds_Check.l0 a0 FUEL (0 : Int)).bind fun t6 =>
  match t6 with
  | .inl t11 =>
    some none
  | .inr t12 =>
    some (some (22 : Int))
def fds_Check.R (r : (Option Int)) : Tm := .v (.one (.err r))
theorem fds_Check.fun_ {a0 : (List Int)} {r : (Option Int)} (h : fds_Check.f a0 = some r) : Fun cfg 20 [.agg [.row 8 (.int .i64) a0]] [] (fds_Check.R r) [] := by
  unfold fds_Check.f at h
  refine fun_of_run cfg_ok (f := 20) (fn := Tryd.f20) Tryd.func20 rfl (by kernel_rfl) (rs := [.tmp 2]) rfl (nt := 18) rfl (l := fin) (k := (.adj [] (.adj [] (.adj [.keep [6, 7]] (.alt (.sub (Unit) (fun _ => (.exit 0)) (fun t11 => ⟨[.any, .any, .any, .any, .any, .any, .any, .any, .any, .any, .any, .any, .any, .any, .any, .any, .any, .any], [.ex false [.row 8 (.int .i64) a0] 24], 0⟩) (fun t11 => (.adj [] (.adj [] (.adj [.drop 0] .nil))))) (.sub (Unit) (fun _ => .ret) (fun t12 => ⟨[.any, .any, .v (.one (.err (some (22 : Int)))), .any, .any, .any, .any, .any, .any, .any, .any, .any, .any, .any, .any, .any, .any, .any], [.ex false [.row 8 (.int .i64) a0] 24], 0⟩) (fun t12 => (.adj [.drop 0] .nil)))))))) (to_goal (q := (True ∧ (True ∧ (True) ∧ (((True) ∧ True) ∧ ((∃ t11 : Unit, Trip cfg (.loop (cpath (Tryd.f20.body.getD .skip) [1, 0, 1, 0, 0])) ⟨[.any, .any, .any, .any, .any, .any, .v (.agg [.row 8 (.int .i64) a0]), .v (.one (.sc (.int .i64 (0 : Int)))), .any, .any, .any, .any, .any, .any, .any, .any, .any, .any], [.ex false [.row 8 (.int .i64) a0] 24], 0⟩ (fun e s => e = (.exit 0) ∧ s = ⟨[.any, .any, .any, .any, .any, .any, .any, .any, .any, .any, .any, .any, .any, .any, .any, .any, .any, .any], [.ex false [.row 8 (.int .i64) a0] 24], 0⟩) ∧ (True ∧ (True ∧ ((True) ∧ ((True) ∧ True) ∧ (.v (.one (.err none)) : Tm) = fds_Check.R r ∧ ([] : List Box) = [])))) ∨ (∃ t12 : Unit, Trip cfg (.loop (cpath (Tryd.f20.body.getD .skip) [1, 0, 1, 0, 0])) ⟨[.any, .any, .any, .any, .any, .any, .v (.agg [.row 8 (.int .i64) a0]), .v (.one (.sc (.int .i64 (0 : Int)))), .any, .any, .any, .any, .any, .any, .any, .any, .any, .any], [.ex false [.row 8 (.int .i64) a0] 24], 0⟩ (fun e s => e = .ret ∧ s = ⟨[.any, .any, .v (.one (.err (some (22 : Int)))), .any, .any, .any, .any, .any, .any, .any, .any, .any, .any, .any, .any, .any, .any, .any], [.ex false [.row 8 (.int .i64) a0] 24], 0⟩) ∧ ((True) ∧ ((True) ∧ True) ∧ (.v (.one (.err (some (22 : Int)))) : Tm) = fds_Check.R r ∧ ([] : List Box) = []))))))) (by kernel_rfl) ?_)
  refine ⟨trivial, ?_⟩
  refine ⟨trivial, ?_⟩
  refine ⟨trivial, ?_⟩
  obtain ⟨t6, ht6, h⟩ := of_bind h
  refine ⟨⟨trivial, trivial⟩, ?_⟩
  rcases t6 with t11 | t12
  · dsimp only at h
    left
    refine ⟨t11, Trip.loop FUEL (fds_Check.l0_ok a0 FUEL (0 : Int) (.inl t11) ht6), ?_⟩
    refine ⟨trivial, ?_⟩
    refine ⟨trivial, ?_⟩
    obtain rfl := Option.some.inj h
    exact ⟨trivial, ⟨trivial, trivial⟩, rfl, rfl⟩
  · dsimp only at h
    right
    refine ⟨t12, Trip.loop FUEL (fds_Check.l0_ok a0 FUEL (0 : Int) (.inr t12) ht6), ?_⟩
    obtain rfl := Option.some.inj h
    exact ⟨trivial, ⟨trivial, trivial⟩, rfl, rfl⟩
/-! halter/fds.At -/
def fds_At.f (a0 : (List Int)) (a1 : Int) : Option (Int × (Option Int)) :=
  (fds_Check.f a0).bind fun t1 =>
  if ¬ (t1 = none) then
    some ((0 : Int), (some (22 : Int)))
  else
    if a1 < (0 : Int) then
      some ((0 : Int), (some (9 : Int)))
    else
      if a1 ≥ (8 : Int) then
        some ((0 : Int), (some (9 : Int)))
      else
        if 0 ≤ a1 ∧ a1 < ((8 : Nat) : Int) then
          if (Int.toNat a1) < 8 then
            if (List.getD a0 (Int.toNat a1) (0 : Int)) = (0 : Int) then
              some ((0 : Int), (some (9 : Int)))
            else
              if 0 ≤ a1 ∧ a1 < ((8 : Nat) : Int) then
                if (Int.toNat a1) < 8 then
                  some ((IntKind.wrap .i64 ((List.getD a0 (Int.toNat a1) (0 : Int)) - (1 : Int))), none)
                else none
              else none
          else none
        else none
def fds_At.R (r : Int × (Option Int)) : Tm := .tup [.one (.sc (.int .i64 r.1)), .one (.err r.2)]
theorem fds_At.fun_ {a0 : (List Int)} {a1 : Int} {r : Int × (Option Int)} (h : fds_At.f a0 a1 = some r) : Fun cfg 8 [.agg [.row 8 (.int .i64) a0], .one (.sc (.int .i64 a1))] [] (fds_At.R r) [] := by
  unfold fds_At.f at h
  refine fun_of_run cfg_ok (f := 8) (fn := Tryd.f8) Tryd.func8 rfl (by kernel_rfl) (rs := [.tmp 4, .tmp 5]) rfl (nt := 31) rfl (l := fin) (k := (.call true [] ((Option Int)) (fun t1 => fds_Check.R t1) (fun t1 => (.br (.adj [] (.adj [] (.adj [.drop 0] .nil))) (.br (.one true (.one true (.one true (.one true (.one true (.one true (.one true (.one true (.one true (.adj [] (.adj [] (.adj [.drop 0] .nil)))))))))))) (.one false (.one false (.br (.one true (.one true (.one true (.one true (.one true (.one true (.adj [] (.adj [] (.adj [.drop 0] .nil))))))))) (.one false (.one false (.one false (.one false (.one false (.br (.adj [] (.adj [] (.adj [.drop 0] .nil))) (.adj [] (.adj [] (.adj [] (.adj [.drop 0] .nil)))))))))))))))))) (to_goal (q := (True) ∧ (∃ t1 : (Option Int), (Fun cfg 20 [.agg [.row 8 (.int .i64) a0]] [] (fds_Check.R t1) [] ∧ True) ∧ (True) ∧ (((!(Option.isNone t1)) = true → (True ∧ (True ∧ ((True) ∧ ((True) ∧ True) ∧ (.tup [.one (.sc (.int .i64 (0 : Int))), .one (.err (some (22 : Int)))] : Tm) = fds_At.R r ∧ ([] : List Box) = [])))) ∧ ((!(Option.isNone t1)) = false → (True) ∧ (((decide (a1 < (0 : Int))) = false → ((decide (a1 < (0 : Int))) = false ∧ (True) ∧ ((decide (a1 < (0 : Int))) = false ∧ (((decide (a1 ≥ (8 : Int))) = false → ((decide (a1 ≥ (8 : Int))) = false ∧ ((decide (a1 ≥ (8 : Int))) = false ∧ (0 ≤ a1 ∧ a1 < ((8 : Nat) : Int)) ∧ ((decide (a1 ≥ (8 : Int))) = false ∧ ((Int.toNat a1) < 8) ∧ ((decide (a1 ≥ (8 : Int))) = false ∧ (True) ∧ ((decide (a1 ≥ (8 : Int))) = false ∧ ((((List.getD a0 (Int.toNat a1) (0 : Int)) == (0 : Int)) = true → (True ∧ (True ∧ ((True) ∧ ((True) ∧ True) ∧ (.tup [.one (.sc (.int .i64 (0 : Int))), .one (.err (some (9 : Int)))] : Tm) = fds_At.R r ∧ ([] : List Box) = [])))) ∧ (((List.getD a0 (Int.toNat a1) (0 : Int)) == (0 : Int)) = false → (True ∧ (True ∧ (0 ≤ a1 ∧ a1 < ((8 : Nat) : Int)) ∧ ((Int.toNat a1) < 8) ∧ (True) ∧ (True ∧ ((True) ∧ ((True) ∧ True) ∧ (.tup [.one (.sc (.int .i64 (IntKind.wrap .i64 ((List.getD a0 (Int.toNat a1) (0 : Int)) - (1 : Int))))), .one (.err none)] : Tm) = fds_At.R r ∧ ([] : List Box) = [])))))))))))) ∧ ((decide (a1 ≥ (8 : Int))) = true → ((decide (a1 ≥ (8 : Int))) = true ∧ ((decide (a1 ≥ (8 : Int))) = true ∧ ((decide (a1 ≥ (8 : Int))) = true ∧ ((decide (a1 ≥ (8 : Int))) = true ∧ ((decide (a1 ≥ (8 : Int))) = true ∧ (true = true ∧ (True ∧ (True ∧ ((True) ∧ ((True) ∧ True) ∧ (.tup [.one (.sc (.int .i64 (0 : Int))), .one (.err (some (9 : Int)))] : Tm) = fds_At.R r ∧ ([] : List Box) = [])))))))))))))) ∧ ((decide (a1 < (0 : Int))) = true → ((decide (a1 < (0 : Int))) = true ∧ ((decide (a1 < (0 : Int))) = true ∧ (true = true ∧ (true = true ∧ (true = true ∧ (true = true ∧ (true = true ∧ (true = true ∧ (true = true ∧ (True ∧ (True ∧ ((True) ∧ ((True) ∧ True) ∧ (.tup [.one (.sc (.int .i64 (0 : Int))), .one (.err (some (9 : Int)))] : Tm) = fds_At.R r ∧ ([] : List Box) = [])))))))))))))))))) (by kernel_rfl) ?_)
  refine ⟨trivial, ?_⟩
  obtain ⟨t1, ht1, h⟩ := of_bind h
  refine ⟨t1, ⟨fds_Check.fun_ ht1, trivial⟩, ?_⟩
  refine ⟨trivial, ?_⟩
  refine ⟨fun b2 => ?_, fun b2 => ?_⟩
  · rw [if_pos (none_f (not_t b2))] at h
    refine ⟨trivial, ?_⟩
    refine ⟨trivial, ?_⟩
    obtain rfl := Option.some.inj h
    exact ⟨trivial, ⟨trivial, trivial⟩, rfl, rfl⟩
  · rw [if_neg (not_not_intro (none_t (not_f b2)))] at h
    refine ⟨trivial, ?_⟩
    refine ⟨fun b3 => ?_, fun b3 => ?_⟩
    · rw [if_neg (of_decide_eq_false b3)] at h
      refine ⟨b3, ?_⟩
      refine ⟨trivial, ?_⟩
      refine ⟨b3, ?_⟩
      refine ⟨fun b4 => ?_, fun b4 => ?_⟩
      · rw [if_neg (of_decide_eq_false b4)] at h
        refine ⟨b4, ?_⟩
        refine ⟨b4, ?_⟩
        obtain ⟨g9, h⟩ := of_guard h
        refine ⟨g9, ?_⟩
        refine ⟨b4, ?_⟩
        obtain ⟨g8, h⟩ := of_guard h
        refine ⟨g8, ?_⟩
        refine ⟨b4, ?_⟩
        refine ⟨trivial, ?_⟩
        refine ⟨b4, ?_⟩
        refine ⟨fun b5 => ?_, fun b5 => ?_⟩
        · rw [if_pos (beq_t b5)] at h
          refine ⟨trivial, ?_⟩
          refine ⟨trivial, ?_⟩
          obtain rfl := Option.some.inj h
          exact ⟨trivial, ⟨trivial, trivial⟩, rfl, rfl⟩
        · rw [if_neg (beq_f b5)] at h
          refine ⟨trivial, ?_⟩
          refine ⟨trivial, ?_⟩
          obtain ⟨g7, h⟩ := of_guard h
          refine ⟨g7, ?_⟩
          obtain ⟨g6, h⟩ := of_guard h
          refine ⟨g6, ?_⟩
          refine ⟨trivial, ?_⟩
          refine ⟨trivial, ?_⟩
          obtain rfl := Option.some.inj h
          exact ⟨trivial, ⟨trivial, trivial⟩, rfl, rfl⟩
      · rw [if_pos (of_decide_eq_true b4)] at h
        refine ⟨b4, ?_⟩
        refine ⟨b4, ?_⟩
        refine ⟨b4, ?_⟩
        refine ⟨b4, ?_⟩
        refine ⟨b4, ?_⟩
        refine ⟨rfl, ?_⟩
        refine ⟨trivial, ?_⟩
        refine ⟨trivial, ?_⟩
        obtain rfl := Option.some.inj h
        exact ⟨trivial, ⟨trivial, trivial⟩, rfl, rfl⟩
    · rw [if_pos (of_decide_eq_true b3)] at h
      refine ⟨b3, ?_⟩
      refine ⟨b3, ?_⟩
      refine ⟨rfl, ?_⟩
      refine ⟨rfl, ?_⟩
      refine ⟨rfl, ?_⟩
      refine ⟨rfl, ?_⟩
      refine ⟨rfl, ?_⟩
      refine ⟨rfl, ?_⟩
      refine ⟨rfl, ?_⟩
      refine ⟨trivial, ?_⟩
      refine ⟨trivial, ?_⟩
      obtain rfl := Option.some.inj h
      exact ⟨trivial, ⟨trivial, trivial⟩, rfl, rfl⟩
/-! slices.Index[[]int,int] -/
def slices_Index_int_int.l0 (a0 : (List Int)) (a1 : Int) : Nat → Int → Option ((Unit) ⊕ (Int))
  | 0, _ => none
  | n + 1, x1 =>
    if x1 < (((List.length a0) : Nat) : Int) then
      if 0 ≤ x1 ∧ x1 < (((List.length a0) : Nat) : Int) then
        if a1 = (List.getD a0 (Int.toNat x1) (0 : Int)) then
          some (.inr x1)
        else
          slices_Index_int_int.l0 a0 a1 n (IntKind.wrap .i64 (x1 + (1 : Int)))
      else none
    else
      some (.inl ())
def slices_Index_int_int.l0_S (a0 : (List Int)) (a1 : Int) (x1 : Int) : St := ⟨[.v (.one (.fs (.int .i64) a0 false)), .v (.one (.sc (.int .i64 a1))), .any, .any, .any, .any, .any, .v (.one (.sc (.int .i64 (((List.length a0) : Nat) : Int)))), .v (.one (.sc (.int .i64 x1))), .any, .any, .any, .any, .any, .any, .any, .any, .any, .any], [], 0⟩
def slices_Index_int_int.l0_Q (a0 : (List Int)) (a1 : Int) : (Unit) ⊕ (Int) → Exit → St → Prop
  | .inl t => fun e s => e = (.exit 0) ∧ s = ⟨[.any, .any, .any, .any, .any, .any, .any, .any, .any, .any, .any, .any, .any, .any, .any, .any, .any, .any, .any], [], 0⟩
  | .inr t => fun e s => e = .ret ∧ s = ⟨[.any, .any, .any, .any, .v (.one (.sc (.int .i64 t))), .any, .any, .any, .any, .any, .any, .any, .any, .any, .any, .any, .any, .any, .any], [], 0⟩
theorem slices_Index_int_int.l0_ok (a0 : (List Int)) (a1 : Int) : ∀ (n : Nat) (x1 : Int) (r : (Unit) ⊕ (Int)), slices_Index_int_int.l0 a0 a1 n x1 = some r → TripN cfg (cpath (Tryd.f22.body.getD .skip) [1, 0, 1, 0, 0]) n (slices_Index_int_int.l0_S a0 a1 x1) (slices_Index_int_int.l0_Q a0 a1 r)
  | 0, _, r, h => by cases h
  | n + 1, x1, r, h => by
    rw [slices_Index_int_int.l0] at h
    refine TripN.of_run cfg_ok (k := (.br (.br (.adj [] (.adj [.keep [4], .drop 0] .nil)) (.adj [] (.adj [] (.adj [.keep [0, 1, 7, 8], .drop 0] .nil)))) (.adj [.keep [], .drop 0] .nil))) (to_goal (q := (True) ∧ (((decide (x1 < (((List.length a0) : Nat) : Int))) = true → (0 ≤ x1 ∧ x1 < (((List.length a0) : Nat) : Int)) ∧ (True) ∧ (True) ∧ (((a1 == (List.getD a0 (Int.toNat x1) (0 : Int))) = true → (True ∧ (((True) ∧ (True) ∧ True) ∧ slices_Index_int_int.l0_Q a0 a1 r .ret ⟨[.any, .any, .any, .any, .v (.one (.sc (.int .i64 x1))), .any, .any, .any, .any, .any, .any, .any, .any, .any, .any, .any, .any, .any, .any], [], 0⟩))) ∧ ((a1 == (List.getD a0 (Int.toNat x1) (0 : Int))) = false → (True ∧ (True ∧ (True) ∧ (((True) ∧ (True) ∧ True) ∧ TripN cfg (cpath (Tryd.f22.body.getD .skip) [1, 0, 1, 0, 0]) n (slices_Index_int_int.l0_S a0 a1 (IntKind.wrap .i64 (x1 + (1 : Int)))) (slices_Index_int_int.l0_Q a0 a1 r))))))) ∧ ((decide (x1 < (((List.length a0) : Nat) : Int))) = false → (((True) ∧ (True) ∧ True) ∧ slices_Index_int_int.l0_Q a0 a1 r (.exit 0) ⟨[.any, .any, .any, .any, .any, .any, .any, .any, .any, .any, .any, .any, .any, .any, .any, .any, .any, .any, .any], [], 0⟩)))) (by kernel_rfl) ?_)
    refine ⟨trivial, ?_⟩
    refine ⟨fun b7 => ?_, fun b7 => ?_⟩
    · rw [if_pos (of_decide_eq_true b7)] at h
      obtain ⟨g9, h⟩ := of_guard h
      refine ⟨g9, ?_⟩
      refine ⟨trivial, ?_⟩
      refine ⟨trivial, ?_⟩
      refine ⟨fun b8 => ?_, fun b8 => ?_⟩
      · rw [if_pos (beq_t b8)] at h
        refine ⟨trivial, ?_⟩
        obtain rfl := Option.some.inj h
        exact ⟨⟨trivial, trivial, trivial⟩, rfl, rfl⟩
      · rw [if_neg (beq_f b8)] at h
        refine ⟨trivial, ?_⟩
        refine ⟨trivial, ?_⟩
        refine ⟨trivial, ?_⟩
        exact ⟨⟨trivial, trivial, trivial⟩, slices_Index_int_int.l0_ok a0 a1 n (IntKind.wrap .i64 (x1 + (1 : Int))) r h⟩
    · rw [if_neg (of_decide_eq_false b7)] at h
      obtain rfl := Option.some.inj h
      exact ⟨⟨trivial, trivial, trivial⟩, rfl, rfl⟩
def slices_Index_int_int.f (a0 : (List Int)) (a1 : Int) : Option Int :=
  (slices_Index_int_int.l0 a0 a1 FUEL (0 : Int)).bind fun t6 =>
  match t6 with
  | .inl t11 =>
    some (-1 : Int)
  | .inr t12 =>
    some t12
def slices_Index_int_int.R (r : Int) : Tm := .v (.one (.sc (.int .i64 r)))
theorem slices_Index_int_int.fun_ {a0 : (List Int)} {a1 : Int} {r : Int} (h : slices_Index_int_int.f a0 a1 = some r) : Fun cfg 22 [.one (.fs (.int .i64) a0 false), .one (.sc (.int .i64 a1))] [] (slices_Index_int_int.R r) [] := by
  unfold slices_Index_int_int.f at h
  refine fun_of_run cfg_ok (f := 22) (fn := Tryd.f22) Tryd.func22 rfl (by kernel_rfl) (rs := [.tmp 4]) rfl (nt := 19) rfl (l := fin) (k := (.adj [] (.adj [] (.adj [.keep [0, 1, 7, 8]] (.alt (.sub (Unit) (fun _ => (.exit 0)) (fun t11 => ⟨[.any, .any, .any, .any, .any, .any, .any, .any, .any, .any, .any, .any, .any, .any, .any, .any, .any, .any, .any], [], 0⟩) (fun t11 => (.adj [] (.adj [] (.adj [] .nil))))) (.sub (Int) (fun _ => .ret) (fun t12 => ⟨[.any, .any, .any, .any, .v (.one (.sc (.int .i64 t12))), .any, .any, .any, .any, .any, .any, .any, .any, .any, .any, .any, .any, .any, .any], [], 0⟩) (fun t12 => (.adj [] .nil)))))))) (to_goal (q := (True ∧ (True ∧ (True) ∧ (((True) ∧ True) ∧ ((∃ t11 : Unit, Trip cfg (.loop (cpath (Tryd.f22.body.getD .skip) [1, 0, 1, 0, 0])) ⟨[.v (.one (.fs (.int .i64) a0 false)), .v (.one (.sc (.int .i64 a1))), .any, .any, .any, .any, .any, .v (.one (.sc (.int .i64 (((List.length a0) : Nat) : Int)))), .v (.one (.sc (.int .i64 (0 : Int)))), .any, .any, .any, .any, .any, .any, .any, .any, .any, .any], [], 0⟩ (fun e s => e = (.exit 0) ∧ s = ⟨[.any, .any, .any, .any, .any, .any, .any, .any, .any, .any, .any, .any, .any, .any, .any, .any, .any, .any, .any], [], 0⟩) ∧ (True ∧ (True ∧ ((True) ∧ (True) ∧ (.v (.one (.sc (.int .i64 (-1 : Int)))) : Tm) = slices_Index_int_int.R r ∧ ([] : List Box) = [])))) ∨ (∃ t12 : Int, Trip cfg (.loop (cpath (Tryd.f22.body.getD .skip) [1, 0, 1, 0, 0])) ⟨[.v (.one (.fs (.int .i64) a0 false)), .v (.one (.sc (.int .i64 a1))), .any, .any, .any, .any, .any, .v (.one (.sc (.int .i64 (((List.length a0) : Nat) : Int)))), .v (.one (.sc (.int .i64 (0 : Int)))), .any, .any, .any, .any, .any, .any, .any, .any, .any, .any], [], 0⟩ (fun e s => e = .ret ∧ s = ⟨[.any, .any, .any, .any, .v (.one (.sc (.int .i64 t12))), .any, .any, .any, .any, .any, .any, .any, .any, .any, .any, .any, .any, .any, .any], [], 0⟩) ∧ ((True) ∧ (True) ∧ (.v (.one (.sc (.int .i64 t12))) : Tm) = slices_Index_int_int.R r ∧ ([] : List Box) = []))))))) (by kernel_rfl) ?_)
  refine ⟨trivial, ?_⟩
  refine ⟨trivial, ?_⟩
  refine ⟨trivial, ?_⟩
  obtain ⟨t6, ht6, h⟩ := of_bind h
  refine ⟨⟨trivial, trivial⟩, ?_⟩
  rcases t6 with t11 | t12
  · dsimp only at h
    left
    refine ⟨t11, Trip.loop FUEL (slices_Index_int_int.l0_ok a0 a1 FUEL (0 : Int) (.inl t11) ht6), ?_⟩
    refine ⟨trivial, ?_⟩
    refine ⟨trivial, ?_⟩
    obtain rfl := Option.some.inj h
    exact ⟨trivial, trivial, rfl, rfl⟩
  · dsimp only at h
    right
    refine ⟨t12, Trip.loop FUEL (slices_Index_int_int.l0_ok a0 a1 FUEL (0 : Int) (.inr t12) ht6), ?_⟩
    obtain rfl := Option.some.inj h
    exact ⟨trivial, trivial, rfl, rfl⟩
/-! halter/fds.Put -/
def fds_Put.f (a0 : (List Int)) (a1 : Int) : Option (Int × (List Int) × (Option Int)) :=
  (fds_Check.f a0).bind fun t1 =>
  if ¬ (t1 = none) then
    some ((0 : Int), (List.replicate 8 (0 : Int)), (some (22 : Int)))
  else
    if a1 < (0 : Int) then
      some ((0 : Int), (List.replicate 8 (0 : Int)), (some (22 : Int)))
    else
      if a1 ≥ (32 : Int) then
        some ((0 : Int), (List.replicate 8 (0 : Int)), (some (22 : Int)))
      else
        (slices_Index_int_int.f (List.take 8 a0) (0 : Int)).bind fun t5 =>
        if t5 < (0 : Int) then
          some ((0 : Int), (List.replicate 8 (0 : Int)), (some (24 : Int)))
        else
          if 0 ≤ t5 ∧ t5 < ((8 : Nat) : Int) then
            if (Int.toNat t5) < 8 then
              some (t5, (List.set a0 (Int.toNat t5) (IntKind.wrap .i64 (a1 + (1 : Int)))), none)
            else none
          else none
def fds_Put.R (r : Int × (List Int) × (Option Int)) : Tm := .tup [.one (.sc (.int .i64 r.1)), .agg [.row 8 (.int .i64) r.2.1], .one (.err r.2.2)]
theorem fds_Put.fun_ {a0 : (List Int)} {a1 : Int} {r : Int × (List Int) × (Option Int)} (h : fds_Put.f a0 a1 = some r) : Fun cfg 6 [.agg [.row 8 (.int .i64) a0], .one (.sc (.int .i64 a1))] [] (fds_Put.R r) [] := by
  unfold fds_Put.f at h
  refine fun_of_run cfg_ok (f := 6) (fn := Tryd.f6) Tryd.func6 rfl (by kernel_rfl) (rs := [.tmp 4, .cell 5 24, .tmp 6]) rfl (nt := 35) rfl (l := fin) (k := (.call true [] ((Option Int)) (fun t1 => fds_Check.R t1) (fun t1 => (.br (.one true (.one true (.one true (.one true (.one true (.one true (.adj [] (.adj [] (.adj [.drop 0] .nil))))))))) (.one false (.one false (.br (.one true (.one true (.one true (.adj [] (.adj [] (.adj [.drop 0] .nil)))))) (.one false (.one false (.br (.adj [] (.adj [] (.adj [.drop 0] .nil))) (.call false [] (Int) (fun t5 => slices_Index_int_int.R t5) (fun t5 => (.br (.adj [] (.adj [] (.adj [.drop 0] .nil))) (.dr [(0, ⟨none, .no⟩), (1, ⟨none, .no⟩), (2, ⟨none, .no⟩), (3, ⟨none, .no⟩), (4, ⟨none, .no⟩)] (.adj [] (.adj [.drop 0] .nil)))))))))))))))) (to_goal (q := (True) ∧ (∃ t1 : (Option Int), (Fun cfg 20 [.agg [.row 8 (.int .i64) a0]] [] (fds_Check.R t1) [] ∧ True) ∧ (True) ∧ (((!(Option.isNone t1)) = false → ((!(Option.isNone t1)) = false ∧ (True) ∧ ((!(Option.isNone t1)) = false ∧ (((decide (a1 < (0 : Int))) = false → ((decide (a1 < (0 : Int))) = false ∧ (True) ∧ ((decide (a1 < (0 : Int))) = false ∧ (((decide (a1 ≥ (32 : Int))) = true → (True ∧ (True) ∧ (True ∧ (((True) ∧ True) ∧ ((True) ∧ True) ∧ (.tup [.one (.sc (.int .i64 (0 : Int))), .agg [.row 8 (.int .i64) (List.replicate 8 (0 : Int))], .one (.err (some (22 : Int)))] : Tm) = fds_Put.R r ∧ ([] : List Box) = [])))) ∧ ((decide (a1 ≥ (32 : Int))) = false → ((True) ∧ (True) ∧ (True) ∧ (false = true → false = true)) ∧ (∃ t5 : Int, ((0 + 8 ≤ 8) ∧ Fun cfg 22 [.one (.fs (.int .i64) (List.take 8 a0) false), .one (.sc (.int .i64 (0 : Int)))] [] (slices_Index_int_int.R t5) [] ∧ True) ∧ (True) ∧ (((decide (t5 < (0 : Int))) = true → (True ∧ (True) ∧ (True ∧ (((True) ∧ True) ∧ ((True) ∧ True) ∧ (.tup [.one (.sc (.int .i64 (0 : Int))), .agg [.row 8 (.int .i64) (List.replicate 8 (0 : Int))], .one (.err (some (24 : Int)))] : Tm) = fds_Put.R r ∧ ([] : List Box) = [])))) ∧ ((decide (t5 < (0 : Int))) = false → (True) ∧ (0 ≤ t5 ∧ t5 < ((8 : Nat) : Int)) ∧ ((Int.toNat t5) < 8) ∧ (True) ∧ (True) ∧ (True ∧ (((True) ∧ True) ∧ ((True) ∧ True) ∧ (.tup [.one (.sc (.int .i64 t5)), .agg [.row 8 (.int .i64) (List.set a0 (Int.toNat t5) (IntKind.wrap .i64 (a1 + (1 : Int))))], .one (.err none)] : Tm) = fds_Put.R r ∧ ([] : List Box) = [])))))))))) ∧ ((decide (a1 < (0 : Int))) = true → ((decide (a1 < (0 : Int))) = true ∧ ((decide (a1 < (0 : Int))) = true ∧ (true = true ∧ (True ∧ (True) ∧ (True ∧ (((True) ∧ True) ∧ ((True) ∧ True) ∧ (.tup [.one (.sc (.int .i64 (0 : Int))), .agg [.row 8 (.int .i64) (List.replicate 8 (0 : Int))], .one (.err (some (22 : Int)))] : Tm) = fds_Put.R r ∧ ([] : List Box) = []))))))))))) ∧ ((!(Option.isNone t1)) = true → ((!(Option.isNone t1)) = true ∧ ((!(Option.isNone t1)) = true ∧ (true = true ∧ (true = true ∧ (true = true ∧ (true = true ∧ (True ∧ (True) ∧ (True ∧ (((True) ∧ True) ∧ ((True) ∧ True) ∧ (.tup [.one (.sc (.int .i64 (0 : Int))), .agg [.row 8 (.int .i64) (List.replicate 8 (0 : Int))], .one (.err (some (22 : Int)))] : Tm) = fds_Put.R r ∧ ([] : List Box) = []))))))))))))) (by kernel_rfl) ?_)
  refine ⟨trivial, ?_⟩
  obtain ⟨t1, ht1, h⟩ := of_bind h
  refine ⟨t1, ⟨fds_Check.fun_ ht1, trivial⟩, ?_⟩
  refine ⟨trivial, ?_⟩
  refine ⟨fun b2 => ?_, fun b2 => ?_⟩
  · rw [if_neg (not_not_intro (none_t (not_f b2)))] at h
    refine ⟨b2, ?_⟩
    refine ⟨trivial, ?_⟩
    refine ⟨b2, ?_⟩
    refine ⟨fun b3 => ?_, fun b3 => ?_⟩
    · rw [if_neg (of_decide_eq_false b3)] at h
      refine ⟨b3, ?_⟩
      refine ⟨trivial, ?_⟩
      refine ⟨b3, ?_⟩
      refine ⟨fun b4 => ?_, fun b4 => ?_⟩
      · rw [if_pos (of_decide_eq_true b4)] at h
        refine ⟨trivial, ?_⟩
        refine ⟨trivial, ?_⟩
        refine ⟨trivial, ?_⟩
        obtain rfl := Option.some.inj h
        exact ⟨⟨trivial, trivial⟩, ⟨trivial, trivial⟩, rfl, rfl⟩
      · rw [if_neg (of_decide_eq_false b4)] at h
        refine ⟨⟨trivial, trivial, trivial, (by decide)⟩, ?_⟩
        obtain ⟨t5, ht5, h⟩ := of_bind h
        refine ⟨t5, ⟨(by decide), slices_Index_int_int.fun_ ht5, trivial⟩, ?_⟩
        refine ⟨trivial, ?_⟩
        refine ⟨fun b6 => ?_, fun b6 => ?_⟩
        · rw [if_pos (of_decide_eq_true b6)] at h
          refine ⟨trivial, ?_⟩
          refine ⟨trivial, ?_⟩
          refine ⟨trivial, ?_⟩
          obtain rfl := Option.some.inj h
          exact ⟨⟨trivial, trivial⟩, ⟨trivial, trivial⟩, rfl, rfl⟩
        · rw [if_neg (of_decide_eq_false b6)] at h
          refine ⟨trivial, ?_⟩
          obtain ⟨g8, h⟩ := of_guard h
          refine ⟨g8, ?_⟩
          obtain ⟨g7, h⟩ := of_guard h
          refine ⟨g7, ?_⟩
          refine ⟨trivial, trivial, ?_⟩
          refine ⟨trivial, ?_⟩
          obtain rfl := Option.some.inj h
          exact ⟨⟨trivial, trivial⟩, ⟨trivial, trivial⟩, rfl, rfl⟩
    · rw [if_pos (of_decide_eq_true b3)] at h
      refine ⟨b3, ?_⟩
      refine ⟨b3, ?_⟩
      refine ⟨rfl, ?_⟩
      refine ⟨trivial, ?_⟩
      refine ⟨trivial, ?_⟩
      refine ⟨trivial, ?_⟩
      obtain rfl := Option.some.inj h
      exact ⟨⟨trivial, trivial⟩, ⟨trivial, trivial⟩, rfl, rfl⟩
  · rw [if_pos (none_f (not_t b2))] at h
    refine ⟨b2, ?_⟩
    refine ⟨b2, ?_⟩
    refine ⟨rfl, ?_⟩
    refine ⟨rfl, ?_⟩
    refine ⟨rfl, ?_⟩
    refine ⟨rfl, ?_⟩
    refine ⟨trivial, ?_⟩
    refine ⟨trivial, ?_⟩
    refine ⟨trivial, ?_⟩
    obtain rfl := Option.some.inj h
    exact ⟨⟨trivial, trivial⟩, ⟨trivial, trivial⟩, rfl, rfl⟩
/-! halter/fds.Dup -/
def fds_Dup.f (a0 : (List Int)) (a1 : Int) : Option (Int × (List Int) × (Option Int)) :=
  (fds_At.f a0 a1).bind fun t1 =>
  if ¬ (t1.2 = none) then
    some ((0 : Int), (List.replicate 8 (0 : Int)), t1.2)
  else
    (fds_Put.f a0 t1.1).bind fun t3 =>
    some (t3.1, t3.2.1, t3.2.2)
def fds_Dup.R (r : Int × (List Int) × (Option Int)) : Tm := .tup [.one (.sc (.int .i64 r.1)), .agg [.row 8 (.int .i64) r.2.1], .one (.err r.2.2)]
theorem fds_Dup.fun_ {a0 : (List Int)} {a1 : Int} {r : Int × (List Int) × (Option Int)} (h : fds_Dup.f a0 a1 = some r) : Fun cfg 12 [.agg [.row 8 (.int .i64) a0], .one (.sc (.int .i64 a1))] [] (fds_Dup.R r) [] := by
  unfold fds_Dup.f at h
  refine fun_of_run cfg_ok (f := 12) (fn := Tryd.f12) Tryd.func12 rfl (by kernel_rfl) (rs := [.tmp 4, .cell 5 24, .tmp 6]) rfl (nt := 25) rfl (l := fin) (k := (.call true [] (Int × (Option Int)) (fun t1 => fds_At.R t1) (fun t1 => (.br (.adj [] (.adj [] (.adj [.drop 0] .nil))) (.call true [] (Int × (List Int) × (Option Int)) (fun t3 => fds_Put.R t3) (fun t3 => (.adj [] (.adj [.drop 0] .nil)))))))) (to_goal (q := (True) ∧ (∃ t1 : Int × (Option Int), (Fun cfg 8 [.agg [.row 8 (.int .i64) a0], .one (.sc (.int .i64 a1))] [] (fds_At.R t1) [] ∧ True) ∧ (True) ∧ (((!(Option.isNone t1.2)) = true → (True ∧ (True) ∧ (True ∧ (((True) ∧ True) ∧ ((True) ∧ True) ∧ (.tup [.one (.sc (.int .i64 (0 : Int))), .agg [.row 8 (.int .i64) (List.replicate 8 (0 : Int))], .one (.err t1.2)] : Tm) = fds_Dup.R r ∧ ([] : List Box) = [])))) ∧ ((!(Option.isNone t1.2)) = false → (True) ∧ (∃ t3 : Int × (List Int) × (Option Int), (Fun cfg 6 [.agg [.row 8 (.int .i64) a0], .one (.sc (.int .i64 t1.1))] [] (fds_Put.R t3) [] ∧ True) ∧ (True) ∧ (True ∧ (((True) ∧ True) ∧ ((True) ∧ True) ∧ (.tup [.one (.sc (.int .i64 t3.1)), .agg [.row 8 (.int .i64) t3.2.1], .one (.err t3.2.2)] : Tm) = fds_Dup.R r ∧ ([] : List Box) = []))))))) (by kernel_rfl) ?_)
  refine ⟨trivial, ?_⟩
  obtain ⟨t1, ht1, h⟩ := of_bind h
  refine ⟨t1, ⟨fds_At.fun_ ht1, trivial⟩, ?_⟩
  refine ⟨trivial, ?_⟩
  refine ⟨fun b2 => ?_, fun b2 => ?_⟩
  · rw [if_pos (none_f (not_t b2))] at h
    refine ⟨trivial, ?_⟩
    refine ⟨trivial, ?_⟩
    refine ⟨trivial, ?_⟩
    obtain rfl := Option.some.inj h
    exact ⟨⟨trivial, trivial⟩, ⟨trivial, trivial⟩, rfl, rfl⟩
  · rw [if_neg (not_not_intro (none_t (not_f b2)))] at h
    refine ⟨trivial, ?_⟩
    obtain ⟨t3, ht3, h⟩ := of_bind h
    refine ⟨t3, ⟨fds_Put.fun_ ht3, trivial⟩, ?_⟩
    refine ⟨trivial, ?_⟩
    refine ⟨trivial, ?_⟩
    obtain rfl := Option.some.inj h
    exact ⟨⟨trivial, trivial⟩, ⟨trivial, trivial⟩, rfl, rfl⟩
/-! halter/fds.Drop -/
def fds_Drop.f (a0 : (List Int)) (a1 : Int) : Option (Int × (List Int) × (Option Int)) :=
  (fds_At.f a0 a1).bind fun t1 =>
  if ¬ (t1.2 = none) then
    some ((0 : Int), (List.replicate 8 (0 : Int)), t1.2)
  else
    if 0 ≤ a1 ∧ a1 < ((8 : Nat) : Int) then
      if (Int.toNat a1) < 8 then
        some (t1.1, (List.set a0 (Int.toNat a1) (0 : Int)), none)
      else none
    else none
def fds_Drop.R (r : Int × (List Int) × (Option Int)) : Tm := .tup [.one (.sc (.int .i64 r.1)), .agg [.row 8 (.int .i64) r.2.1], .one (.err r.2.2)]
theorem fds_Drop.fun_ {a0 : (List Int)} {a1 : Int} {r : Int × (List Int) × (Option Int)} (h : fds_Drop.f a0 a1 = some r) : Fun cfg 10 [.agg [.row 8 (.int .i64) a0], .one (.sc (.int .i64 a1))] [] (fds_Drop.R r) [] := by
  unfold fds_Drop.f at h
  refine fun_of_run cfg_ok (f := 10) (fn := Tryd.f10) Tryd.func10 rfl (by kernel_rfl) (rs := [.tmp 4, .cell 5 24, .tmp 6]) rfl (nt := 24) rfl (l := fin) (k := (.call true [] (Int × (Option Int)) (fun t1 => fds_At.R t1) (fun t1 => (.br (.adj [] (.adj [] (.adj [.drop 0] .nil))) (.dr [(0, ⟨none, .no⟩), (1, ⟨none, .no⟩), (2, ⟨none, .no⟩), (3, ⟨none, .no⟩), (4, ⟨none, .no⟩)] (.adj [] (.adj [.drop 0] .nil))))))) (to_goal (q := (True) ∧ (∃ t1 : Int × (Option Int), (Fun cfg 8 [.agg [.row 8 (.int .i64) a0], .one (.sc (.int .i64 a1))] [] (fds_At.R t1) [] ∧ True) ∧ (True) ∧ (((!(Option.isNone t1.2)) = true → (True ∧ (True) ∧ (True ∧ (((True) ∧ True) ∧ ((True) ∧ True) ∧ (.tup [.one (.sc (.int .i64 (0 : Int))), .agg [.row 8 (.int .i64) (List.replicate 8 (0 : Int))], .one (.err t1.2)] : Tm) = fds_Drop.R r ∧ ([] : List Box) = [])))) ∧ ((!(Option.isNone t1.2)) = false → (0 ≤ a1 ∧ a1 < ((8 : Nat) : Int)) ∧ ((Int.toNat a1) < 8) ∧ (True) ∧ (True) ∧ (True ∧ (((True) ∧ True) ∧ ((True) ∧ True) ∧ (.tup [.one (.sc (.int .i64 t1.1)), .agg [.row 8 (.int .i64) (List.set a0 (Int.toNat a1) (0 : Int))], .one (.err none)] : Tm) = fds_Drop.R r ∧ ([] : List Box) = [])))))) (by kernel_rfl) ?_)
  refine ⟨trivial, ?_⟩
  obtain ⟨t1, ht1, h⟩ := of_bind h
  refine ⟨t1, ⟨fds_At.fun_ ht1, trivial⟩, ?_⟩
  refine ⟨trivial, ?_⟩
  refine ⟨fun b2 => ?_, fun b2 => ?_⟩
  · rw [if_pos (none_f (not_t b2))] at h
    refine ⟨trivial, ?_⟩
    refine ⟨trivial, ?_⟩
    refine ⟨trivial, ?_⟩
    obtain rfl := Option.some.inj h
    exact ⟨⟨trivial, trivial⟩, ⟨trivial, trivial⟩, rfl, rfl⟩
  · rw [if_neg (not_not_intro (none_t (not_f b2)))] at h
    obtain ⟨g4, h⟩ := of_guard h
    refine ⟨g4, ?_⟩
    obtain ⟨g3, h⟩ := of_guard h
    refine ⟨g3, ?_⟩
    refine ⟨trivial, trivial, ?_⟩
    refine ⟨trivial, ?_⟩
    obtain rfl := Option.some.inj h
    exact ⟨⟨trivial, trivial⟩, ⟨trivial, trivial⟩, rfl, rfl⟩
/-! halter/fds.Files -/
def fds_Files.l0 (a0 : (List Int)) : Nat → (List Int) → Int → Option (List Int)
  | 0, _, _ => none
  | n + 1, x12, x13 =>
    if x13 < (8 : Int) then
      if 0 ≤ x13 ∧ x13 < ((8 : Nat) : Int) then
        if (List.getD a0 (Int.toNat x13) (0 : Int)) > (0 : Int) then
          if (0 = 0 ∧ 1 = 1) ∧ 0 = 0 ∧ (List.length x12) = (List.length x12) ∧ (((List.length x12) + 1) * 8 ≤ 140737488355328 ∧ (List.length x12) + 1 ≤ 9223372036854775807) then
            fds_Files.l0 a0 n (x12 ++ [(IntKind.wrap .i64 ((List.getD a0 (Int.toNat x13) (0 : Int)) - (1 : Int)))]) (IntKind.wrap .i64 (x13 + (1 : Int)))
          else none
        else
          fds_Files.l0 a0 n x12 (IntKind.wrap .i64 (x13 + (1 : Int)))
      else none
    else
      some x12
def fds_Files.l0_S (a0 : (List Int)) (x12 : List Int) (x13 : Int) : St := ⟨[.any, .any, .any, .v (.one (.os 1 0 0 1 (List.length x12) none)), .any, .any, .any, .any, .any, .any, .v (.agg [.row 8 (.int .i64) a0]), .v (.one (.sc (.int .i64 x13))), .any, .any, .any, .any, .any, .any, .any, .any, .any, .any, .any], [.ex false [.row 8 (.int .i64) a0] 24, .gro false (.int .i64) x12 3], 0⟩
def fds_Files.l0_Q (a0 : (List Int)) (t : (List Int)) : Exit → St → Prop := fun e s => e = (.exit 0) ∧ s = ⟨[.any, .any, .any, .v (.one (.os 1 0 0 1 (List.length t) none)), .any, .any, .any, .any, .any, .any, .any, .any, .any, .any, .any, .any, .any, .any, .any, .any, .any, .any, .any], [.ex false [.row 8 (.int .i64) a0] 24, .gro false (.int .i64) t 3], 0⟩
theorem fds_Files.l0_ok (a0 : (List Int)) : ∀ (n : Nat) (x12 : List Int) (x13 : Int) (r : (List Int)), fds_Files.l0 a0 n x12 x13 = some r → TripN cfg (cpath (Tryd.f18.body.getD .skip) [1, 1, 1, 0, 1, 0, 0]) n (fds_Files.l0_S a0 x12 x13) (fds_Files.l0_Q a0 r)
  | 0, _, _, r, h => by cases h
  | n + 1, x12, x13, r, h => by
    rw [fds_Files.l0] at h
    refine TripN.of_run cfg_ok (k := (.br (.br (.d (.b true) (.adj [] (.adj [.keep [3, 10, 11], .drop 2] .nil))) (.adj [] (.adj [] (.adj [.keep [3, 10, 11], .drop 2] .nil)))) (.adj [.keep [3], .drop 2] .nil))) (to_goal (q := (True) ∧ (((decide (x13 < (8 : Int))) = true → (0 ≤ x13 ∧ x13 < ((8 : Nat) : Int)) ∧ (True) ∧ (((decide ((List.getD a0 (Int.toNat x13) (0 : Int)) > (0 : Int))) = true → (True) ∧ ((0 = 0 ∧ 1 = 1) ∧ 0 = 0 ∧ (List.length x12) = (List.length x12) ∧ (((List.length x12) + 1) * 8 ≤ 140737488355328 ∧ (List.length x12) + 1 ≤ 9223372036854775807)) ∧ (True ∧ (True) ∧ (((True) ∧ (True) ∧ True) ∧ TripN cfg (cpath (Tryd.f18.body.getD .skip) [1, 1, 1, 0, 1, 0, 0]) n (fds_Files.l0_S a0 (x12 ++ [(IntKind.wrap .i64 ((List.getD a0 (Int.toNat x13) (0 : Int)) - (1 : Int)))]) (IntKind.wrap .i64 (x13 + (1 : Int)))) (fds_Files.l0_Q a0 r)))) ∧ ((decide ((List.getD a0 (Int.toNat x13) (0 : Int)) > (0 : Int))) = false → (True ∧ (True ∧ (True) ∧ (((True) ∧ (True) ∧ True) ∧ TripN cfg (cpath (Tryd.f18.body.getD .skip) [1, 1, 1, 0, 1, 0, 0]) n (fds_Files.l0_S a0 x12 (IntKind.wrap .i64 (x13 + (1 : Int)))) (fds_Files.l0_Q a0 r))))))) ∧ ((decide (x13 < (8 : Int))) = false → (((True) ∧ (True) ∧ True) ∧ fds_Files.l0_Q a0 r (.exit 0) ⟨[.any, .any, .any, .v (.one (.os 1 0 0 1 (List.length x12) none)), .any, .any, .any, .any, .any, .any, .any, .any, .any, .any, .any, .any, .any, .any, .any, .any, .any, .any, .any], [.ex false [.row 8 (.int .i64) a0] 24, .gro false (.int .i64) x12 3], 0⟩)))) (by kernel_rfl) ?_)
    refine ⟨trivial, ?_⟩
    refine ⟨fun b20 => ?_, fun b20 => ?_⟩
    · rw [if_pos (of_decide_eq_true b20)] at h
      obtain ⟨g23, h⟩ := of_guard h
      refine ⟨g23, ?_⟩
      refine ⟨trivial, ?_⟩
      refine ⟨fun b21 => ?_, fun b21 => ?_⟩
      · rw [if_pos (of_decide_eq_true b21)] at h
        refine ⟨trivial, ?_⟩
        obtain ⟨g22, h⟩ := of_guard h
        refine ⟨g22, ?_⟩
        refine ⟨trivial, ?_⟩
        refine ⟨trivial, ?_⟩
        exact ⟨⟨trivial, trivial, trivial⟩, fds_Files.l0_ok a0 n (x12 ++ [(IntKind.wrap .i64 ((List.getD a0 (Int.toNat x13) (0 : Int)) - (1 : Int)))]) (IntKind.wrap .i64 (x13 + (1 : Int))) r h⟩
      · rw [if_neg (of_decide_eq_false b21)] at h
        refine ⟨trivial, ?_⟩
        refine ⟨trivial, ?_⟩
        refine ⟨trivial, ?_⟩
        exact ⟨⟨trivial, trivial, trivial⟩, fds_Files.l0_ok a0 n x12 (IntKind.wrap .i64 (x13 + (1 : Int))) r h⟩
    · rw [if_neg (of_decide_eq_false b20)] at h
      obtain rfl := Option.some.inj h
      exact ⟨⟨trivial, trivial, trivial⟩, rfl, rfl⟩
def fds_Files.f (a0 : (List Int)) : Option (List Int) :=
  (fds_Check.f a0).bind fun t1 =>
  if ¬ (t1 = none) then
    some ([] : List Int)
  else
    (fds_Files.l0 a0 FUEL ([] : List Int) (0 : Int)).bind fun t19 =>
    some t19
def fds_Files.R (r : (List Int)) : Tm := .v (.one (.fs (.int .i64) r false))
theorem fds_Files.fun_ {a0 : (List Int)} {r : (List Int)} (h : fds_Files.f a0 = some r) : Fun cfg 18 [.agg [.row 8 (.int .i64) a0]] [] (fds_Files.R r) [] := by
  unfold fds_Files.f at h
  refine fun_of_run cfg_ok (f := 18) (fn := Tryd.f18) Tryd.func18 rfl (by kernel_rfl) (rs := [.tmp 2]) rfl (nt := 23) rfl (l := fin) (k := (.call true [] ((Option Int)) (fun t1 => fds_Check.R t1) (fun t1 => (.br (.adj [] (.adj [] (.adj [.co 0 true [(.int .i64)], .drop 0] .nil))) (.adj [] (.adj [] (.adj [] (.adj [.keep [3, 10, 11], .nilGro 3 (.int .i64) 3] (.sub ((List Int)) (fun _ => (.exit 0)) (fun t19 => ⟨[.any, .any, .any, .v (.one (.os 1 0 0 1 (List.length t19) none)), .any, .any, .any, .any, .any, .any, .any, .any, .any, .any, .any, .any, .any, .any, .any, .any, .any, .any, .any], [.ex false [.row 8 (.int .i64) a0] 24, .gro false (.int .i64) t19 3], 0⟩) (fun t19 => (.adj [] (.adj [] (.adj [.co 0 true [], .drop 0] .nil))))))))))))) (to_goal (q := (True) ∧ (∃ t1 : (Option Int), (Fun cfg 20 [.agg [.row 8 (.int .i64) a0]] [] (fds_Check.R t1) [] ∧ True) ∧ (True) ∧ (((!(Option.isNone t1)) = true → (True ∧ (True ∧ ((True) ∧ ((True) ∧ (True) ∧ True) ∧ (.v (.one (.fs (.int .i64) ([] : List Int) false)) : Tm) = fds_Files.R r ∧ ([] : List Box) = [])))) ∧ ((!(Option.isNone t1)) = false → (True ∧ (True ∧ (True ∧ (True) ∧ (((True) ∧ (True) ∧ True) ∧ (∃ t19 : (List Int), Trip cfg (.loop (cpath (Tryd.f18.body.getD .skip) [1, 1, 1, 0, 1, 0, 0])) ⟨[.any, .any, .any, .v (.one (.os 1 0 0 1 0 none)), .any, .any, .any, .any, .any, .any, .v (.agg [.row 8 (.int .i64) a0]), .v (.one (.sc (.int .i64 (0 : Int)))), .any, .any, .any, .any, .any, .any, .any, .any, .any, .any, .any], [.ex false [.row 8 (.int .i64) a0] 24, .gro false (.int .i64) ([] : List Int) 3], 0⟩ (fun e s => e = (.exit 0) ∧ s = ⟨[.any, .any, .any, .v (.one (.os 1 0 0 1 (List.length t19) none)), .any, .any, .any, .any, .any, .any, .any, .any, .any, .any, .any, .any, .any, .any, .any, .any, .any, .any, .any], [.ex false [.row 8 (.int .i64) a0] 24, .gro false (.int .i64) t19 3], 0⟩) ∧ (True ∧ (True ∧ ((True) ∧ ((((0 = 0 ∧ (List.length t19) = (List.length t19))) ∧ True) ∧ (True) ∧ True) ∧ (.v (.one (.fs (.int .i64) t19 false)) : Tm) = fds_Files.R r ∧ ([] : List Box) = [])))))))))))) (by kernel_rfl) ?_)
  refine ⟨trivial, ?_⟩
  obtain ⟨t1, ht1, h⟩ := of_bind h
  refine ⟨t1, ⟨fds_Check.fun_ ht1, trivial⟩, ?_⟩
  refine ⟨trivial, ?_⟩
  refine ⟨fun b2 => ?_, fun b2 => ?_⟩
  · rw [if_pos (none_f (not_t b2))] at h
    refine ⟨trivial, ?_⟩
    refine ⟨trivial, ?_⟩
    obtain rfl := Option.some.inj h
    exact ⟨trivial, ⟨trivial, trivial, trivial⟩, rfl, rfl⟩
  · rw [if_neg (not_not_intro (none_t (not_f b2)))] at h
    refine ⟨trivial, ?_⟩
    refine ⟨trivial, ?_⟩
    refine ⟨trivial, ?_⟩
    refine ⟨trivial, ?_⟩
    obtain ⟨t19, ht19, h⟩ := of_bind h
    refine ⟨⟨trivial, trivial, trivial⟩, t19, Trip.loop FUEL (fds_Files.l0_ok a0 FUEL ([] : List Int) (0 : Int) t19 ht19), ?_⟩
    refine ⟨trivial, ?_⟩
    refine ⟨trivial, ?_⟩
    obtain rfl := Option.some.inj h
    exact ⟨trivial, ⟨⟨⟨rfl, rfl⟩, trivial⟩, trivial, trivial⟩, rfl, rfl⟩
/-! halter/fds.Free -/
def fds_Free.f (a0 : (List Int)) : Option Int :=
  (fds_Check.f a0).bind fun t1 =>
  if ¬ (t1 = none) then
    some (0 : Int)
  else
    (fds_Files.f a0).bind fun t3 =>
    some (IntKind.wrap .i64 ((8 : Int) - (((List.length t3) : Nat) : Int)))
def fds_Free.R (r : Int) : Tm := .v (.one (.sc (.int .i64 r)))
theorem fds_Free.fun_ {a0 : (List Int)} {r : Int} (h : fds_Free.f a0 = some r) : Fun cfg 19 [.agg [.row 8 (.int .i64) a0]] [] (fds_Free.R r) [] := by
  unfold fds_Free.f at h
  refine fun_of_run cfg_ok (f := 19) (fn := Tryd.f19) Tryd.func19 rfl (by kernel_rfl) (rs := [.tmp 2]) rfl (nt := 10) rfl (l := fin) (k := (.call true [] ((Option Int)) (fun t1 => fds_Check.R t1) (fun t1 => (.br (.adj [] (.adj [] (.adj [.drop 0] .nil))) (.call true [] ((List Int)) (fun t3 => fds_Files.R t3) (fun t3 => (.adj [] (.adj [.drop 0] .nil)))))))) (to_goal (q := (True) ∧ (∃ t1 : (Option Int), (Fun cfg 20 [.agg [.row 8 (.int .i64) a0]] [] (fds_Check.R t1) [] ∧ True) ∧ (True) ∧ (((!(Option.isNone t1)) = true → (True ∧ (True ∧ ((True) ∧ ((True) ∧ True) ∧ (.v (.one (.sc (.int .i64 (0 : Int)))) : Tm) = fds_Free.R r ∧ ([] : List Box) = [])))) ∧ ((!(Option.isNone t1)) = false → (True) ∧ (∃ t3 : (List Int), (Fun cfg 18 [.agg [.row 8 (.int .i64) a0]] [] (fds_Files.R t3) [] ∧ True) ∧ (True) ∧ (True) ∧ (True ∧ ((True) ∧ ((True) ∧ True) ∧ (.v (.one (.sc (.int .i64 (IntKind.wrap .i64 ((8 : Int) - (((List.length t3) : Nat) : Int)))))) : Tm) = fds_Free.R r ∧ ([] : List Box) = []))))))) (by kernel_rfl) ?_)
  refine ⟨trivial, ?_⟩
  obtain ⟨t1, ht1, h⟩ := of_bind h
  refine ⟨t1, ⟨fds_Check.fun_ ht1, trivial⟩, ?_⟩
  refine ⟨trivial, ?_⟩
  refine ⟨fun b2 => ?_, fun b2 => ?_⟩
  · rw [if_pos (none_f (not_t b2))] at h
    refine ⟨trivial, ?_⟩
    refine ⟨trivial, ?_⟩
    obtain rfl := Option.some.inj h
    exact ⟨trivial, ⟨trivial, trivial⟩, rfl, rfl⟩
  · rw [if_neg (not_not_intro (none_t (not_f b2)))] at h
    refine ⟨trivial, ?_⟩
    obtain ⟨t3, ht3, h⟩ := of_bind h
    refine ⟨t3, ⟨fds_Files.fun_ ht3, trivial⟩, ?_⟩
    refine ⟨trivial, ?_⟩
    refine ⟨trivial, ?_⟩
    refine ⟨trivial, ?_⟩
    obtain rfl := Option.some.inj h
    exact ⟨trivial, ⟨trivial, trivial⟩, rfl, rfl⟩
/-! halter/halterlaw20.ints -/
def halterlaw20_ints.l0 (a0 : (List Int)) (a1 : (List Int)) : Nat → Int → Option ((Unit) ⊕ (Unit))
  | 0, _ => none
  | n + 1, x2 =>
    if x2 < (((List.length a0) : Nat) : Int) then
      if 0 ≤ x2 ∧ x2 < (((List.length a0) : Nat) : Int) then
        if 0 ≤ x2 ∧ x2 < (((List.length a1) : Nat) : Int) then
          if ¬ (List.getD a0 (Int.toNat x2) (0 : Int)) = (List.getD a1 (Int.toNat x2) (0 : Int)) then
            some (.inr ())
          else
            halterlaw20_ints.l0 a0 a1 n (IntKind.wrap .i64 (x2 + (1 : Int)))
        else none
      else none
    else
      some (.inl ())
def halterlaw20_ints.l0_S (a0 : (List Int)) (a1 : (List Int)) (x2 : Int) : St := ⟨[.v (.one (.fs (.int .i64) a0 false)), .v (.one (.fs (.int .i64) a1 false)), .any, .any, .any, .v (.one (.sc (.int .i64 x2))), .any, .any, .any, .any, .any, .any, .any, .any, .any, .any, .any, .any, .any, .any, .any, .any, .any, .any, .any, .any], [], 0⟩
def halterlaw20_ints.l0_Q (a0 : (List Int)) (a1 : (List Int)) : (Unit) ⊕ (Unit) → Exit → St → Prop
  | .inl t => fun e s => e = (.exit 0) ∧ s = ⟨[.any, .any, .any, .any, .any, .any, .any, .any, .any, .any, .any, .any, .any, .any, .any, .any, .any, .any, .any, .any, .any, .any, .any, .any, .any, .any], [], 0⟩
  | .inr t => fun e s => e = .ret ∧ s = ⟨[.any, .any, .any, .any, .v (.one (.sc (.bool false))), .any, .any, .any, .any, .any, .any, .any, .any, .any, .any, .any, .any, .any, .any, .any, .any, .any, .any, .any, .any, .any], [], 0⟩
theorem halterlaw20_ints.l0_ok (a0 : (List Int)) (a1 : (List Int)) : ∀ (n : Nat) (x2 : Int) (r : (Unit) ⊕ (Unit)), halterlaw20_ints.l0 a0 a1 n x2 = some r → TripN cfg (cpath (Tryd.f17.body.getD .skip) [1, 1, 0, 1, 0, 0]) n (halterlaw20_ints.l0_S a0 a1 x2) (halterlaw20_ints.l0_Q a0 a1 r)
  | 0, _, r, h => by cases h
  | n + 1, x2, r, h => by
    rw [halterlaw20_ints.l0] at h
    refine TripN.of_run cfg_ok (k := (.br (.dr [(0, ⟨none, .no⟩), (1, ⟨none, .no⟩), (2, ⟨none, .no⟩), (3, ⟨none, .no⟩), (4, ⟨none, .no⟩), (5, ⟨none, .no⟩), (6, ⟨none, .no⟩), (7, ⟨none, .no⟩), (8, ⟨none, .no⟩)] (.br (.adj [] (.adj [.keep [4], .drop 0] .nil)) (.adj [] (.adj [] (.adj [.keep [0, 1, 5], .drop 0] .nil))))) (.adj [.keep [], .drop 0] .nil))) (to_goal (q := (True) ∧ (True) ∧ (((decide (x2 < (((List.length a0) : Nat) : Int))) = true → (0 ≤ x2 ∧ x2 < (((List.length a0) : Nat) : Int)) ∧ (True) ∧ (0 ≤ x2 ∧ x2 < (((List.length a1) : Nat) : Int)) ∧ (True) ∧ (True) ∧ ((((List.getD a0 (Int.toNat x2) (0 : Int)) != (List.getD a1 (Int.toNat x2) (0 : Int))) = true → (True ∧ (((True) ∧ (True) ∧ True) ∧ halterlaw20_ints.l0_Q a0 a1 r .ret ⟨[.any, .any, .any, .any, .v (.one (.sc (.bool false))), .any, .any, .any, .any, .any, .any, .any, .any, .any, .any, .any, .any, .any, .any, .any, .any, .any, .any, .any, .any, .any], [], 0⟩))) ∧ (((List.getD a0 (Int.toNat x2) (0 : Int)) != (List.getD a1 (Int.toNat x2) (0 : Int))) = false → (True ∧ (True ∧ (True) ∧ (((True) ∧ (True) ∧ True) ∧ TripN cfg (cpath (Tryd.f17.body.getD .skip) [1, 1, 0, 1, 0, 0]) n (halterlaw20_ints.l0_S a0 a1 (IntKind.wrap .i64 (x2 + (1 : Int)))) (halterlaw20_ints.l0_Q a0 a1 r))))))) ∧ ((decide (x2 < (((List.length a0) : Nat) : Int))) = false → (((True) ∧ (True) ∧ True) ∧ halterlaw20_ints.l0_Q a0 a1 r (.exit 0) ⟨[.any, .any, .any, .any, .any, .any, .any, .any, .any, .any, .any, .any, .any, .any, .any, .any, .any, .any, .any, .any, .any, .any, .any, .any, .any, .any], [], 0⟩)))) (by kernel_rfl) ?_)
    refine ⟨trivial, ?_⟩
    refine ⟨trivial, ?_⟩
    refine ⟨fun b8 => ?_, fun b8 => ?_⟩
    · rw [if_pos (of_decide_eq_true b8)] at h
      obtain ⟨g9, h⟩ := of_guard h
      obtain ⟨g10, h⟩ := of_guard h
      refine ⟨g9, trivial, g10, trivial, trivial, ?_⟩
      refine ⟨fun b11 => ?_, fun b11 => ?_⟩
      · rw [if_pos (bne_t b11)] at h
        refine ⟨trivial, ?_⟩
        obtain rfl := Option.some.inj h
        exact ⟨⟨trivial, trivial, trivial⟩, rfl, rfl⟩
      · rw [if_neg (not_not_intro (bne_f b11))] at h
        refine ⟨trivial, ?_⟩
        refine ⟨trivial, ?_⟩
        refine ⟨trivial, ?_⟩
        exact ⟨⟨trivial, trivial, trivial⟩, halterlaw20_ints.l0_ok a0 a1 n (IntKind.wrap .i64 (x2 + (1 : Int))) r h⟩
    · rw [if_neg (of_decide_eq_false b8)] at h
      obtain rfl := Option.some.inj h
      exact ⟨⟨trivial, trivial, trivial⟩, rfl, rfl⟩
def halterlaw20_ints.f (a0 : (List Int)) (a1 : (List Int)) : Option Bool :=
  if ¬ (((List.length a0) : Nat) : Int) = (((List.length a1) : Nat) : Int) then
    some false
  else
    (halterlaw20_ints.l0 a0 a1 FUEL (0 : Int)).bind fun t7 =>
    match t7 with
    | .inl t12 =>
      some true
    | .inr t13 =>
      some false
def halterlaw20_ints.R (r : Bool) : Tm := .v (.one (.sc (.bool r)))
theorem halterlaw20_ints.fun_ {a0 : (List Int)} {a1 : (List Int)} {r : Bool} (h : halterlaw20_ints.f a0 a1 = some r) : Fun cfg 17 [.one (.fs (.int .i64) a0 false), .one (.fs (.int .i64) a1 false)] [] (halterlaw20_ints.R r) [] := by
  unfold halterlaw20_ints.f at h
  refine fun_of_run cfg_ok (f := 17) (fn := Tryd.f17) Tryd.func17 rfl (by kernel_rfl) (rs := [.tmp 4]) rfl (nt := 26) rfl (l := fin) (k := (.br (.adj [] (.adj [] (.adj [] .nil))) (.adj [] (.adj [] (.adj [.keep [0, 1, 5]] (.alt (.sub (Unit) (fun _ => (.exit 0)) (fun t12 => ⟨[.any, .any, .any, .any, .any, .any, .any, .any, .any, .any, .any, .any, .any, .any, .any, .any, .any, .any, .any, .any, .any, .any, .any, .any, .any, .any], [], 0⟩) (fun t12 => (.adj [] (.adj [] (.adj [] .nil))))) (.sub (Unit) (fun _ => .ret) (fun t13 => ⟨[.any, .any, .any, .any, .v (.one (.sc (.bool false))), .any, .any, .any, .any, .any, .any, .any, .any, .any, .any, .any, .any, .any, .any, .any, .any, .any, .any, .any, .any, .any], [], 0⟩) (fun t13 => (.adj [] .nil))))))))) (to_goal (q := (True) ∧ (True) ∧ (True) ∧ ((((((List.length a0) : Nat) : Int) != (((List.length a1) : Nat) : Int)) = true → (True ∧ (True ∧ ((True) ∧ (True) ∧ (.v (.one (.sc (.bool false))) : Tm) = halterlaw20_ints.R r ∧ ([] : List Box) = [])))) ∧ (((((List.length a0) : Nat) : Int) != (((List.length a1) : Nat) : Int)) = false → (True ∧ (True ∧ (((True) ∧ True) ∧ ((∃ t12 : Unit, Trip cfg (.loop (cpath (Tryd.f17.body.getD .skip) [1, 1, 0, 1, 0, 0])) ⟨[.v (.one (.fs (.int .i64) a0 false)), .v (.one (.fs (.int .i64) a1 false)), .any, .any, .any, .v (.one (.sc (.int .i64 (0 : Int)))), .any, .any, .any, .any, .any, .any, .any, .any, .any, .any, .any, .any, .any, .any, .any, .any, .any, .any, .any, .any], [], 0⟩ (fun e s => e = (.exit 0) ∧ s = ⟨[.any, .any, .any, .any, .any, .any, .any, .any, .any, .any, .any, .any, .any, .any, .any, .any, .any, .any, .any, .any, .any, .any, .any, .any, .any, .any], [], 0⟩) ∧ (True ∧ (True ∧ ((True) ∧ (True) ∧ (.v (.one (.sc (.bool true))) : Tm) = halterlaw20_ints.R r ∧ ([] : List Box) = [])))) ∨ (∃ t13 : Unit, Trip cfg (.loop (cpath (Tryd.f17.body.getD .skip) [1, 1, 0, 1, 0, 0])) ⟨[.v (.one (.fs (.int .i64) a0 false)), .v (.one (.fs (.int .i64) a1 false)), .any, .any, .any, .v (.one (.sc (.int .i64 (0 : Int)))), .any, .any, .any, .any, .any, .any, .any, .any, .any, .any, .any, .any, .any, .any, .any, .any, .any, .any, .any, .any], [], 0⟩ (fun e s => e = .ret ∧ s = ⟨[.any, .any, .any, .any, .v (.one (.sc (.bool false))), .any, .any, .any, .any, .any, .any, .any, .any, .any, .any, .any, .any, .any, .any, .any, .any, .any, .any, .any, .any, .any], [], 0⟩) ∧ ((True) ∧ (True) ∧ (.v (.one (.sc (.bool false))) : Tm) = halterlaw20_ints.R r ∧ ([] : List Box) = []))))))))) (by kernel_rfl) ?_)
  refine ⟨trivial, ?_⟩
  refine ⟨trivial, ?_⟩
  refine ⟨trivial, ?_⟩
  refine ⟨fun b1 => ?_, fun b1 => ?_⟩
  · rw [if_pos (bne_t b1)] at h
    refine ⟨trivial, ?_⟩
    refine ⟨trivial, ?_⟩
    obtain rfl := Option.some.inj h
    exact ⟨trivial, trivial, rfl, rfl⟩
  · rw [if_neg (not_not_intro (bne_f b1))] at h
    refine ⟨trivial, ?_⟩
    refine ⟨trivial, ?_⟩
    obtain ⟨t7, ht7, h⟩ := of_bind h
    refine ⟨⟨trivial, trivial⟩, ?_⟩
    rcases t7 with t12 | t13
    · dsimp only at h
      left
      refine ⟨t12, Trip.loop FUEL (halterlaw20_ints.l0_ok a0 a1 FUEL (0 : Int) (.inl t12) ht7), ?_⟩
      refine ⟨trivial, ?_⟩
      refine ⟨trivial, ?_⟩
      obtain rfl := Option.some.inj h
      exact ⟨trivial, trivial, rfl, rfl⟩
    · dsimp only at h
      right
      refine ⟨t13, Trip.loop FUEL (halterlaw20_ints.l0_ok a0 a1 FUEL (0 : Int) (.inr t13) ht7), ?_⟩
      obtain rfl := Option.some.inj h
      exact ⟨trivial, trivial, rfl, rfl⟩
/-! halter/halterlaw20.sure -/
def halterlaw20_sure.f : Option Bool :=
  (fds_Put.f (List.replicate 8 (0 : Int)) (5 : Int)).bind fun t1 =>
  (fds_Dup.f t1.2.1 t1.1).bind fun t2 =>
  (fds_At.f t2.2.1 t2.1).bind fun t3 =>
  (fds_Drop.f t2.2.1 (0 : Int)).bind fun t4 =>
  (fds_At.f t4.2.1 (0 : Int)).bind fun t5 =>
  if t1.2.2 = none then
    if t2.2.2 = none then
      if t3.2 = none then
        if t4.2.2 = none then
          if t1.1 = (0 : Int) then
            if t2.1 = (1 : Int) then
              if t3.1 = (5 : Int) then
                (num.f t5.2).bind fun t13 =>
                if t13 = (9 : Int) then
                  (fds_Free.f t4.2.1).bind fun t15 =>
                  if t15 = (7 : Int) then
                    (fds_Files.f t2.2.1).bind fun t17 =>
                    (halterlaw20_ints.f t17 [(5 : Int), (5 : Int)]).bind fun t18 =>
                    some t18
                  else
                    some false
                else
                  some false
              else
                some false
            else
              some false
          else
            some false
        else
          some false
      else
        some false
    else
      some false
  else
    some false
def halterlaw20_sure.R (r : Bool) : Tm := .v (.one (.sc (.bool r)))
theorem halterlaw20_sure.fun_ {r : Bool} (h : halterlaw20_sure.f = some r) : Fun cfg 21 [] [] (halterlaw20_sure.R r) [] := by
  unfold halterlaw20_sure.f at h
  refine fun_of_run cfg_ok (f := 21) (fn := Tryd.f21) Tryd.func21 rfl (by kernel_rfl) (rs := [.tmp 0]) rfl (nt := 86) rfl (l := fin) (k := (.call true [] (Int × (List Int) × (Option Int)) (fun t1 => fds_Put.R t1) (fun t1 => (.call true [] (Int × (List Int) × (Option Int)) (fun t2 => fds_Dup.R t2) (fun t2 => (.call true [] (Int × (Option Int)) (fun t3 => fds_At.R t3) (fun t3 => (.call true [] (Int × (List Int) × (Option Int)) (fun t4 => fds_Drop.R t4) (fun t4 => (.call true [] (Int × (Option Int)) (fun t5 => fds_At.R t5) (fun t5 => (.br (.one true (.one true (.br (.one true (.one true (.br (.one true (.one true (.br (.one true (.one true (.br (.one true (.one true (.br (.one true (.one true (.br (.one true (.call true [] (Int) (fun t13 => num.R t13) (fun t13 => (.one true (.one true (.br (.one true (.call true [] (Int) (fun t15 => fds_Free.R t15) (fun t15 => (.one true (.one true (.br (.one true (.call true [] ((List Int)) (fun t17 => fds_Files.R t17) (fun t17 => (.one true (.one true (.call true [] (Bool) (fun t18 => halterlaw20_ints.R t18) (fun t18 => (.one true (.adj [] (.adj [.drop 0] .nil)))))))))) (.one false (.one false (.one false (.one false (.adj [] (.adj [.drop 0] .nil)))))))))))) (.one false (.one false (.one false (.one false (.one false (.one false (.one false (.one false (.adj [] (.adj [.drop 0] .nil)))))))))))))))) (.one false (.one false (.one false (.one false (.one false (.one false (.one false (.one false (.one false (.one false (.one false (.one false (.adj [] (.adj [.drop 0] .nil))))))))))))))))) (.one false (.one false (.one false (.one false (.one false (.one false (.one false (.one false (.one false (.one false (.one false (.one false (.one false (.one false (.one false (.adj [] (.adj [.drop 0] .nil)))))))))))))))))))) (.one false (.one false (.one false (.one false (.one false (.one false (.one false (.one false (.one false (.one false (.one false (.one false (.one false (.one false (.one false (.one false (.one false (.one false (.adj [] (.adj [.drop 0] .nil))))))))))))))))))))))) (.one false (.one false (.one false (.one false (.one false (.one false (.one false (.one false (.one false (.one false (.one false (.one false (.one false (.one false (.one false (.one false (.one false (.one false (.one false (.one false (.one false (.adj [] (.adj [.drop 0] .nil)))))))))))))))))))))))))) (.one false (.one false (.one false (.one false (.one false (.one false (.one false (.one false (.one false (.one false (.one false (.one false (.one false (.one false (.one false (.one false (.one false (.one false (.one false (.one false (.one false (.one false (.one false (.one false (.adj [] (.adj [.drop 0] .nil))))))))))))))))))))))))))))) (.one false (.one false (.one false (.one false (.one false (.one false (.one false (.one false (.one false (.one false (.one false (.one false (.one false (.one false (.one false (.one false (.one false (.one false (.one false (.one false (.one false (.one false (.one false (.one false (.one false (.one false (.one false (.adj [] (.adj [.drop 0] .nil)))))))))))))))))))))))))))))))) (.one false (.one false (.one false (.one false (.one false (.one false (.one false (.one false (.one false (.one false (.one false (.one false (.one false (.one false (.one false (.one false (.one false (.one false (.one false (.one false (.one false (.one false (.one false (.one false (.one false (.one false (.one false (.one false (.one false (.one false (.adj [] (.adj [.drop 0] .nil)))))))))))))))))))))))))))))))))))))))))))) (to_goal (q := (∃ t1 : Int × (List Int) × (Option Int), (Fun cfg 6 [.agg [.row 8 (.int .i64) (List.replicate 8 (0 : Int))], .one (.sc (.int .i64 (5 : Int)))] [] (fds_Put.R t1) [] ∧ True) ∧ (True) ∧ (True) ∧ (∃ t2 : Int × (List Int) × (Option Int), (Fun cfg 12 [.agg [.row 8 (.int .i64) t1.2.1], .one (.sc (.int .i64 t1.1))] [] (fds_Dup.R t2) [] ∧ True) ∧ (True) ∧ (True) ∧ (∃ t3 : Int × (Option Int), (Fun cfg 8 [.agg [.row 8 (.int .i64) t2.2.1], .one (.sc (.int .i64 t2.1))] [] (fds_At.R t3) [] ∧ True) ∧ (True) ∧ (∃ t4 : Int × (List Int) × (Option Int), (Fun cfg 10 [.agg [.row 8 (.int .i64) t2.2.1], .one (.sc (.int .i64 (0 : Int)))] [] (fds_Drop.R t4) [] ∧ True) ∧ (True) ∧ (True) ∧ (∃ t5 : Int × (Option Int), (Fun cfg 8 [.agg [.row 8 (.int .i64) t4.2.1], .one (.sc (.int .i64 (0 : Int)))] [] (fds_At.R t5) [] ∧ True) ∧ (True) ∧ (((Option.isNone t1.2.2) = true → ((Option.isNone t1.2.2) = true ∧ (True) ∧ ((Option.isNone t1.2.2) = true ∧ (((Option.isNone t2.2.2) = true → ((Option.isNone t2.2.2) = true ∧ (True) ∧ ((Option.isNone t2.2.2) = true ∧ (((Option.isNone t3.2) = true → ((Option.isNone t3.2) = true ∧ (True) ∧ ((Option.isNone t3.2) = true ∧ (((Option.isNone t4.2.2) = true → ((Option.isNone t4.2.2) = true ∧ (True) ∧ ((Option.isNone t4.2.2) = true ∧ (((t1.1 == (0 : Int)) = true → ((t1.1 == (0 : Int)) = true ∧ (True) ∧ ((t1.1 == (0 : Int)) = true ∧ (((t2.1 == (1 : Int)) = true → ((t2.1 == (1 : Int)) = true ∧ (True) ∧ ((t2.1 == (1 : Int)) = true ∧ (((t3.1 == (5 : Int)) = true → ((t3.1 == (5 : Int)) = true ∧ (∃ t13 : Int, (Fun cfg 16 [.one (.err t5.2)] [] (num.R t13) [] ∧ True) ∧ ((t3.1 == (5 : Int)) = true ∧ (True) ∧ ((t3.1 == (5 : Int)) = true ∧ (((t13 == (9 : Int)) = true → (True) ∧ ((t13 == (9 : Int)) = true ∧ (∃ t15 : Int, (Fun cfg 19 [.agg [.row 8 (.int .i64) t4.2.1]] [] (fds_Free.R t15) [] ∧ True) ∧ ((t13 == (9 : Int)) = true ∧ (True) ∧ ((t13 == (9 : Int)) = true ∧ (((t15 == (7 : Int)) = true → (True) ∧ ((t15 == (7 : Int)) = true ∧ (∃ t17 : (List Int), (Fun cfg 18 [.agg [.row 8 (.int .i64) t2.2.1]] [] (fds_Files.R t17) [] ∧ True) ∧ ((t15 == (7 : Int)) = true ∧ ((t15 == (7 : Int)) = true ∧ (∃ t18 : Bool, ((0 = 0 ∧ 2 = 2) ∧ Fun cfg 17 [.one (.fs (.int .i64) t17 false), .one (.fs (.int .i64) [(5 : Int), (5 : Int)] false)] [] (halterlaw20_ints.R t18) [] ∧ True) ∧ ((t15 == (7 : Int)) = true ∧ (True ∧ ((True) ∧ ((True) ∧ True) ∧ (.v (.one (.sc (.bool t18))) : Tm) = halterlaw20_sure.R r ∧ ([] : List Box) = []))))))))) ∧ ((t15 == (7 : Int)) = false → ((t15 == (7 : Int)) = false ∧ ((t15 == (7 : Int)) = false ∧ ((t15 == (7 : Int)) = false ∧ ((t15 == (7 : Int)) = false ∧ (True ∧ ((True) ∧ ((True) ∧ True) ∧ (.v (.one (.sc (.bool false))) : Tm) = halterlaw20_sure.R r ∧ ([] : List Box) = []))))))))))))) ∧ ((t13 == (9 : Int)) = false → ((t13 == (9 : Int)) = false ∧ ((t13 == (9 : Int)) = false ∧ ((t13 == (9 : Int)) = false ∧ (false = false ∧ (false = false ∧ (false = false ∧ (false = false ∧ (false = false ∧ (True ∧ ((True) ∧ ((True) ∧ True) ∧ (.v (.one (.sc (.bool false))) : Tm) = halterlaw20_sure.R r ∧ ([] : List Box) = []))))))))))))))))) ∧ ((t3.1 == (5 : Int)) = false → ((t3.1 == (5 : Int)) = false ∧ ((t3.1 == (5 : Int)) = false ∧ ((t3.1 == (5 : Int)) = false ∧ (false = false ∧ (false = false ∧ (false = false ∧ (false = false ∧ (false = false ∧ (false = false ∧ (false = false ∧ (false = false ∧ (false = false ∧ (True ∧ ((True) ∧ ((True) ∧ True) ∧ (.v (.one (.sc (.bool false))) : Tm) = halterlaw20_sure.R r ∧ ([] : List Box) = []))))))))))))))))))) ∧ ((t2.1 == (1 : Int)) = false → ((t2.1 == (1 : Int)) = false ∧ ((t2.1 == (1 : Int)) = false ∧ (false = false ∧ (false = false ∧ (false = false ∧ (false = false ∧ (false = false ∧ (false = false ∧ (false = false ∧ (false = false ∧ (false = false ∧ (false = false ∧ (false = false ∧ (false = false ∧ (false = false ∧ (True ∧ ((True) ∧ ((True) ∧ True) ∧ (.v (.one (.sc (.bool false))) : Tm) = halterlaw20_sure.R r ∧ ([] : List Box) = [])))))))))))))))))))))) ∧ ((t1.1 == (0 : Int)) = false → ((t1.1 == (0 : Int)) = false ∧ ((t1.1 == (0 : Int)) = false ∧ (false = false ∧ (false = false ∧ (false = false ∧ (false = false ∧ (false = false ∧ (false = false ∧ (false = false ∧ (false = false ∧ (false = false ∧ (false = false ∧ (false = false ∧ (false = false ∧ (false = false ∧ (false = false ∧ (false = false ∧ (false = false ∧ (True ∧ ((True) ∧ ((True) ∧ True) ∧ (.v (.one (.sc (.bool false))) : Tm) = halterlaw20_sure.R r ∧ ([] : List Box) = []))))))))))))))))))))))))) ∧ ((Option.isNone t4.2.2) = false → ((Option.isNone t4.2.2) = false ∧ ((Option.isNone t4.2.2) = false ∧ (false = false ∧ (false = false ∧ (false = false ∧ (false = false ∧ (false = false ∧ (false = false ∧ (false = false ∧ (false = false ∧ (false = false ∧ (false = false ∧ (false = false ∧ (false = false ∧ (false = false ∧ (false = false ∧ (false = false ∧ (false = false ∧ (false = false ∧ (false = false ∧ (false = false ∧ (True ∧ ((True) ∧ ((True) ∧ True) ∧ (.v (.one (.sc (.bool false))) : Tm) = halterlaw20_sure.R r ∧ ([] : List Box) = [])))))))))))))))))))))))))))) ∧ ((Option.isNone t3.2) = false → ((Option.isNone t3.2) = false ∧ ((Option.isNone t3.2) = false ∧ (false = false ∧ (false = false ∧ (false = false ∧ (false = false ∧ (false = false ∧ (false = false ∧ (false = false ∧ (false = false ∧ (false = false ∧ (false = false ∧ (false = false ∧ (false = false ∧ (false = false ∧ (false = false ∧ (false = false ∧ (false = false ∧ (false = false ∧ (false = false ∧ (false = false ∧ (false = false ∧ (false = false ∧ (false = false ∧ (True ∧ ((True) ∧ ((True) ∧ True) ∧ (.v (.one (.sc (.bool false))) : Tm) = halterlaw20_sure.R r ∧ ([] : List Box) = []))))))))))))))))))))))))))))))) ∧ ((Option.isNone t2.2.2) = false → ((Option.isNone t2.2.2) = false ∧ ((Option.isNone t2.2.2) = false ∧ (false = false ∧ (false = false ∧ (false = false ∧ (false = false ∧ (false = false ∧ (false = false ∧ (false = false ∧ (false = false ∧ (false = false ∧ (false = false ∧ (false = false ∧ (false = false ∧ (false = false ∧ (false = false ∧ (false = false ∧ (false = false ∧ (false = false ∧ (false = false ∧ (false = false ∧ (false = false ∧ (false = false ∧ (false = false ∧ (false = false ∧ (false = false ∧ (false = false ∧ (True ∧ ((True) ∧ ((True) ∧ True) ∧ (.v (.one (.sc (.bool false))) : Tm) = halterlaw20_sure.R r ∧ ([] : List Box) = [])))))))))))))))))))))))))))))))))) ∧ ((Option.isNone t1.2.2) = false → ((Option.isNone t1.2.2) = false ∧ ((Option.isNone t1.2.2) = false ∧ (false = false ∧ (false = false ∧ (false = false ∧ (false = false ∧ (false = false ∧ (false = false ∧ (false = false ∧ (false = false ∧ (false = false ∧ (false = false ∧ (false = false ∧ (false = false ∧ (false = false ∧ (false = false ∧ (false = false ∧ (false = false ∧ (false = false ∧ (false = false ∧ (false = false ∧ (false = false ∧ (false = false ∧ (false = false ∧ (false = false ∧ (false = false ∧ (false = false ∧ (false = false ∧ (false = false ∧ (false = false ∧ (True ∧ ((True) ∧ ((True) ∧ True) ∧ (.v (.one (.sc (.bool false))) : Tm) = halterlaw20_sure.R r ∧ ([] : List Box) = [])))))))))))))))))))))))))))))))))))))))) (by kernel_rfl) ?_)
  obtain ⟨t1, ht1, h⟩ := of_bind h
  refine ⟨t1, ⟨fds_Put.fun_ ht1, trivial⟩, ?_⟩
  refine ⟨trivial, ?_⟩
  refine ⟨trivial, ?_⟩
  obtain ⟨t2, ht2, h⟩ := of_bind h
  refine ⟨t2, ⟨fds_Dup.fun_ ht2, trivial⟩, ?_⟩
  refine ⟨trivial, ?_⟩
  refine ⟨trivial, ?_⟩
  obtain ⟨t3, ht3, h⟩ := of_bind h
  refine ⟨t3, ⟨fds_At.fun_ ht3, trivial⟩, ?_⟩
  refine ⟨trivial, ?_⟩
  obtain ⟨t4, ht4, h⟩ := of_bind h
  refine ⟨t4, ⟨fds_Drop.fun_ ht4, trivial⟩, ?_⟩
  refine ⟨trivial, ?_⟩
  refine ⟨trivial, ?_⟩
  obtain ⟨t5, ht5, h⟩ := of_bind h
  refine ⟨t5, ⟨fds_At.fun_ ht5, trivial⟩, ?_⟩
  refine ⟨trivial, ?_⟩
  refine ⟨fun b6 => ?_, fun b6 => ?_⟩
  · rw [if_pos (none_t b6)] at h
    refine ⟨b6, ?_⟩
    refine ⟨trivial, ?_⟩
    refine ⟨b6, ?_⟩
    refine ⟨fun b7 => ?_, fun b7 => ?_⟩
    · rw [if_pos (none_t b7)] at h
      refine ⟨b7, ?_⟩
      refine ⟨trivial, ?_⟩
      refine ⟨b7, ?_⟩
      refine ⟨fun b8 => ?_, fun b8 => ?_⟩
      · rw [if_pos (none_t b8)] at h
        refine ⟨b8, ?_⟩
        refine ⟨trivial, ?_⟩
        refine ⟨b8, ?_⟩
        refine ⟨fun b9 => ?_, fun b9 => ?_⟩
        · rw [if_pos (none_t b9)] at h
          refine ⟨b9, ?_⟩
          refine ⟨trivial, ?_⟩
          refine ⟨b9, ?_⟩
          refine ⟨fun b10 => ?_, fun b10 => ?_⟩
          · rw [if_pos (beq_t b10)] at h
            refine ⟨b10, ?_⟩
            refine ⟨trivial, ?_⟩
            refine ⟨b10, ?_⟩
            refine ⟨fun b11 => ?_, fun b11 => ?_⟩
            · rw [if_pos (beq_t b11)] at h
              refine ⟨b11, ?_⟩
              refine ⟨trivial, ?_⟩
              refine ⟨b11, ?_⟩
              refine ⟨fun b12 => ?_, fun b12 => ?_⟩
              · rw [if_pos (beq_t b12)] at h
                refine ⟨b12, ?_⟩
                obtain ⟨t13, ht13, h⟩ := of_bind h
                refine ⟨t13, ⟨num.fun_ ht13, trivial⟩, ?_⟩
                refine ⟨b12, ?_⟩
                refine ⟨trivial, ?_⟩
                refine ⟨b12, ?_⟩
                refine ⟨fun b14 => ?_, fun b14 => ?_⟩
                · rw [if_pos (beq_t b14)] at h
                  refine ⟨trivial, ?_⟩
                  refine ⟨b14, ?_⟩
                  obtain ⟨t15, ht15, h⟩ := of_bind h
                  refine ⟨t15, ⟨fds_Free.fun_ ht15, trivial⟩, ?_⟩
                  refine ⟨b14, ?_⟩
                  refine ⟨trivial, ?_⟩
                  refine ⟨b14, ?_⟩
                  refine ⟨fun b16 => ?_, fun b16 => ?_⟩
                  · rw [if_pos (beq_t b16)] at h
                    refine ⟨trivial, ?_⟩
                    refine ⟨b16, ?_⟩
                    obtain ⟨t17, ht17, h⟩ := of_bind h
                    refine ⟨t17, ⟨fds_Files.fun_ ht17, trivial⟩, ?_⟩
                    refine ⟨b16, ?_⟩
                    refine ⟨b16, ?_⟩
                    obtain ⟨t18, ht18, h⟩ := of_bind h
                    refine ⟨t18, ⟨⟨rfl, rfl⟩, halterlaw20_ints.fun_ ht18, trivial⟩, ?_⟩
                    refine ⟨b16, ?_⟩
                    refine ⟨trivial, ?_⟩
                    obtain rfl := Option.some.inj h
                    exact ⟨trivial, ⟨trivial, trivial⟩, rfl, rfl⟩
                  · rw [if_neg (beq_f b16)] at h
                    refine ⟨b16, ?_⟩
                    refine ⟨b16, ?_⟩
                    refine ⟨b16, ?_⟩
                    refine ⟨b16, ?_⟩
                    refine ⟨trivial, ?_⟩
                    obtain rfl := Option.some.inj h
                    exact ⟨trivial, ⟨trivial, trivial⟩, rfl, rfl⟩
                · rw [if_neg (beq_f b14)] at h
                  refine ⟨b14, ?_⟩
                  refine ⟨b14, ?_⟩
                  refine ⟨b14, ?_⟩
                  refine ⟨rfl, ?_⟩
                  refine ⟨rfl, ?_⟩
                  refine ⟨rfl, ?_⟩
                  refine ⟨rfl, ?_⟩
                  refine ⟨rfl, ?_⟩
                  refine ⟨trivial, ?_⟩
                  obtain rfl := Option.some.inj h
                  exact ⟨trivial, ⟨trivial, trivial⟩, rfl, rfl⟩
              · rw [if_neg (beq_f b12)] at h
                refine ⟨b12, ?_⟩
                refine ⟨b12, ?_⟩
                refine ⟨b12, ?_⟩
                refine ⟨rfl, ?_⟩
                refine ⟨rfl, ?_⟩
                refine ⟨rfl, ?_⟩
                refine ⟨rfl, ?_⟩
                refine ⟨rfl, ?_⟩
                refine ⟨rfl, ?_⟩
                refine ⟨rfl, ?_⟩
                refine ⟨rfl, ?_⟩
                refine ⟨rfl, ?_⟩
                refine ⟨trivial, ?_⟩
                obtain rfl := Option.some.inj h
                exact ⟨trivial, ⟨trivial, trivial⟩, rfl, rfl⟩
            · rw [if_neg (beq_f b11)] at h
              refine ⟨b11, ?_⟩
              refine ⟨b11, ?_⟩
              refine ⟨rfl, ?_⟩
              refine ⟨rfl, ?_⟩
              refine ⟨rfl, ?_⟩
              refine ⟨rfl, ?_⟩
              refine ⟨rfl, ?_⟩
              refine ⟨rfl, ?_⟩
              refine ⟨rfl, ?_⟩
              refine ⟨rfl, ?_⟩
              refine ⟨rfl, ?_⟩
              refine ⟨rfl, ?_⟩
              refine ⟨rfl, ?_⟩
              refine ⟨rfl, ?_⟩
              refine ⟨rfl, ?_⟩
              refine ⟨trivial, ?_⟩
              obtain rfl := Option.some.inj h
              exact ⟨trivial, ⟨trivial, trivial⟩, rfl, rfl⟩
          · rw [if_neg (beq_f b10)] at h
            refine ⟨b10, ?_⟩
            refine ⟨b10, ?_⟩
            refine ⟨rfl, ?_⟩
            refine ⟨rfl, ?_⟩
            refine ⟨rfl, ?_⟩
            refine ⟨rfl, ?_⟩
            refine ⟨rfl, ?_⟩
            refine ⟨rfl, ?_⟩
            refine ⟨rfl, ?_⟩
            refine ⟨rfl, ?_⟩
            refine ⟨rfl, ?_⟩
            refine ⟨rfl, ?_⟩
            refine ⟨rfl, ?_⟩
            refine ⟨rfl, ?_⟩
            refine ⟨rfl, ?_⟩
            refine ⟨rfl, ?_⟩
            refine ⟨rfl, ?_⟩
            refine ⟨rfl, ?_⟩
            refine ⟨trivial, ?_⟩
            obtain rfl := Option.some.inj h
            exact ⟨trivial, ⟨trivial, trivial⟩, rfl, rfl⟩
        · rw [if_neg (none_f b9)] at h
          refine ⟨b9, ?_⟩
          refine ⟨b9, ?_⟩
          refine ⟨rfl, ?_⟩
          refine ⟨rfl, ?_⟩
          refine ⟨rfl, ?_⟩
          refine ⟨rfl, ?_⟩
          refine ⟨rfl, ?_⟩
          refine ⟨rfl, ?_⟩
          refine ⟨rfl, ?_⟩
          refine ⟨rfl, ?_⟩
          refine ⟨rfl, ?_⟩
          refine ⟨rfl, ?_⟩
          refine ⟨rfl, ?_⟩
          refine ⟨rfl, ?_⟩
          refine ⟨rfl, ?_⟩
          refine ⟨rfl, ?_⟩
          refine ⟨rfl, ?_⟩
          refine ⟨rfl, ?_⟩
          refine ⟨rfl, ?_⟩
          refine ⟨rfl, ?_⟩
          refine ⟨rfl, ?_⟩
          refine ⟨trivial, ?_⟩
          obtain rfl := Option.some.inj h
          exact ⟨trivial, ⟨trivial, trivial⟩, rfl, rfl⟩
      · rw [if_neg (none_f b8)] at h
        refine ⟨b8, ?_⟩
        refine ⟨b8, ?_⟩
        refine ⟨rfl, ?_⟩
        refine ⟨rfl, ?_⟩
        refine ⟨rfl, ?_⟩
        refine ⟨rfl, ?_⟩
        refine ⟨rfl, ?_⟩
        refine ⟨rfl, ?_⟩
        refine ⟨rfl, ?_⟩
        refine ⟨rfl, ?_⟩
        refine ⟨rfl, ?_⟩
        refine ⟨rfl, ?_⟩
        refine ⟨rfl, ?_⟩
        refine ⟨rfl, ?_⟩
        refine ⟨rfl, ?_⟩
        refine ⟨rfl, ?_⟩
        refine ⟨rfl, ?_⟩
        refine ⟨rfl, ?_⟩
        refine ⟨rfl, ?_⟩
        refine ⟨rfl, ?_⟩
        refine ⟨rfl, ?_⟩
        refine ⟨rfl, ?_⟩
        refine ⟨rfl, ?_⟩
        refine ⟨rfl, ?_⟩
        refine ⟨trivial, ?_⟩
        obtain rfl := Option.some.inj h
        exact ⟨trivial, ⟨trivial, trivial⟩, rfl, rfl⟩
    · rw [if_neg (none_f b7)] at h
      refine ⟨b7, ?_⟩
      refine ⟨b7, ?_⟩
      refine ⟨rfl, ?_⟩
      refine ⟨rfl, ?_⟩
      refine ⟨rfl, ?_⟩
      refine ⟨rfl, ?_⟩
      refine ⟨rfl, ?_⟩
      refine ⟨rfl, ?_⟩
      refine ⟨rfl, ?_⟩
      refine ⟨rfl, ?_⟩
      refine ⟨rfl, ?_⟩
      refine ⟨rfl, ?_⟩
      refine ⟨rfl, ?_⟩
      refine ⟨rfl, ?_⟩
      refine ⟨rfl, ?_⟩
      refine ⟨rfl, ?_⟩
      refine ⟨rfl, ?_⟩
      refine ⟨rfl, ?_⟩
      refine ⟨rfl, ?_⟩
      refine ⟨rfl, ?_⟩
      refine ⟨rfl, ?_⟩
      refine ⟨rfl, ?_⟩
      refine ⟨rfl, ?_⟩
      refine ⟨rfl, ?_⟩
      refine ⟨rfl, ?_⟩
      refine ⟨rfl, ?_⟩
      refine ⟨rfl, ?_⟩
      refine ⟨trivial, ?_⟩
      obtain rfl := Option.some.inj h
      exact ⟨trivial, ⟨trivial, trivial⟩, rfl, rfl⟩
  · rw [if_neg (none_f b6)] at h
    refine ⟨b6, ?_⟩
    refine ⟨b6, ?_⟩
    refine ⟨rfl, ?_⟩
    refine ⟨rfl, ?_⟩
    refine ⟨rfl, ?_⟩
    refine ⟨rfl, ?_⟩
    refine ⟨rfl, ?_⟩
    refine ⟨rfl, ?_⟩
    refine ⟨rfl, ?_⟩
    refine ⟨rfl, ?_⟩
    refine ⟨rfl, ?_⟩
    refine ⟨rfl, ?_⟩
    refine ⟨rfl, ?_⟩
    refine ⟨rfl, ?_⟩
    refine ⟨rfl, ?_⟩
    refine ⟨rfl, ?_⟩
    refine ⟨rfl, ?_⟩
    refine ⟨rfl, ?_⟩
    refine ⟨rfl, ?_⟩
    refine ⟨rfl, ?_⟩
    refine ⟨rfl, ?_⟩
    refine ⟨rfl, ?_⟩
    refine ⟨rfl, ?_⟩
    refine ⟨rfl, ?_⟩
    refine ⟨rfl, ?_⟩
    refine ⟨rfl, ?_⟩
    refine ⟨rfl, ?_⟩
    refine ⟨rfl, ?_⟩
    refine ⟨rfl, ?_⟩
    refine ⟨rfl, ?_⟩
    refine ⟨trivial, ?_⟩
    obtain rfl := Option.some.inj h
    exact ⟨trivial, ⟨trivial, trivial⟩, rfl, rfl⟩
/-! halter/halterlaw20.FdsDoubles -/
def halterlaw20_FdsDoubles.l0 (a1 : Int) : Nat → (List Int) → Int → Option (List Int)
  | 0, _, _ => none
  | n + 1, x7, x8 =>
    if x8 < (8 : Int) then
      if 0 ≤ x8 ∧ x8 < ((8 : Nat) : Int) then
        if (Int.toNat x8) < 8 then
          if 0 ≤ x8 ∧ x8 < ((8 : Nat) : Int) then
            if (Int.toNat x8) < 8 then
              halterlaw20_FdsDoubles.l0 a1 n (List.set x7 (Int.toNat x8) (IntKind.wrap .i64 ((Int.tmod (IntKind.wrap .u64 ((List.getD x7 (Int.toNat x8) (0 : Int)))) (33 : Int))))) (IntKind.wrap .i64 (x8 + (1 : Int)))
            else none
          else none
        else none
      else none
    else
      some x7
def halterlaw20_FdsDoubles.l0_S (a1 : Int) (x7 : List Int) (x8 : Int) : St := ⟨[.any, .v (.one (.sc (.int .i64 a1))), .v (.one (.ptr 0 ⟨0, 0, 0, 0⟩)), .any, .any, .v (.one (.sc (.int .i64 x8))), .any, .any, .any, .any, .any, .any, .any, .any, .any, .any, .any, .any, .any, .any, .any, .any, .any, .any, .any, .any, .any, .any, .any, .any, .any, .any, .any, .any, .any, .any, .any, .any, .any, .any, .any, .any, .any, .any, .any, .any, .any, .any, .any, .any, .any, .any, .any, .any, .any, .any, .any, .any, .any, .any, .any, .any, .any, .any, .any, .any, .any, .any, .any, .any, .any, .any, .any, .any, .any, .any, .any, .any, .any, .any, .any, .any, .any, .any, .any, .any, .any, .any, .any, .any, .any, .any, .any, .any, .any, .any, .any, .any, .any, .any, .any, .any, .any, .any, .any, .any, .any, .any, .any, .any, .any, .any, .any, .any, .any, .any, .any, .any, .any, .any, .any, .any, .any, .any, .any, .any, .any, .any, .any, .any, .any, .any, .any, .any, .any, .any, .any, .any, .any, .any, .any, .any], [.ex false [.row 8 (.int .i64) x7] 22], 0⟩
def halterlaw20_FdsDoubles.l0_Q (a1 : Int) (t : (List Int)) : Exit → St → Prop := fun e s => e = (.exit 0) ∧ s = ⟨[.any, .v (.one (.sc (.int .i64 a1))), .v (.one (.ptr 0 ⟨0, 0, 0, 0⟩)), .any, .any, .any, .any, .any, .any, .any, .any, .any, .any, .any, .any, .any, .any, .any, .any, .any, .any, .any, .any, .any, .any, .any, .any, .any, .any, .any, .any, .any, .any, .any, .any, .any, .any, .any, .any, .any, .any, .any, .any, .any, .any, .any, .any, .any, .any, .any, .any, .any, .any, .any, .any, .any, .any, .any, .any, .any, .any, .any, .any, .any, .any, .any, .any, .any, .any, .any, .any, .any, .any, .any, .any, .any, .any, .any, .any, .any, .any, .any, .any, .any, .any, .any, .any, .any, .any, .any, .any, .any, .any, .any, .any, .any, .any, .any, .any, .any, .any, .any, .any, .any, .any, .any, .any, .any, .any, .any, .any, .any, .any, .any, .any, .any, .any, .any, .any, .any, .any, .any, .any, .any, .any, .any, .any, .any, .any, .any, .any, .any, .any, .any, .any, .any, .any, .any, .any, .any, .any, .any], [.ex false [.row 8 (.int .i64) t] 22], 0⟩
theorem halterlaw20_FdsDoubles.l0_ok (a1 : Int) : ∀ (n : Nat) (x7 : List Int) (x8 : Int) (r : (List Int)), halterlaw20_FdsDoubles.l0 a1 n x7 x8 = some r → TripN cfg (cpath (Tryd.f5.body.getD .skip) [1, 0, 1, 0, 0]) n (halterlaw20_FdsDoubles.l0_S a1 x7 x8) (halterlaw20_FdsDoubles.l0_Q a1 r)
  | 0, _, _, r, h => by cases h
  | n + 1, x7, x8, r, h => by
    rw [halterlaw20_FdsDoubles.l0] at h
    refine TripN.of_run cfg_ok (k := (.br (.adj [] (.adj [] (.adj [] (.adj [.keep [1, 2, 5], .drop 1] .nil)))) (.adj [.keep [1, 2], .drop 1] .nil))) (to_goal (q := (True) ∧ (((decide (x8 < (8 : Int))) = true → (True ∧ (True ∧ (0 ≤ x8 ∧ x8 < ((8 : Nat) : Int)) ∧ ((Int.toNat x8) < 8) ∧ (True) ∧ ((33 : Int) ≠ 0) ∧ (True) ∧ (0 ≤ x8 ∧ x8 < ((8 : Nat) : Int)) ∧ ((Int.toNat x8) < 8) ∧ (True ∧ (True) ∧ (((True) ∧ (True) ∧ True) ∧ TripN cfg (cpath (Tryd.f5.body.getD .skip) [1, 0, 1, 0, 0]) n (halterlaw20_FdsDoubles.l0_S a1 (List.set x7 (Int.toNat x8) (IntKind.wrap .i64 ((Int.tmod (IntKind.wrap .u64 ((List.getD x7 (Int.toNat x8) (0 : Int)))) (33 : Int))))) (IntKind.wrap .i64 (x8 + (1 : Int)))) (halterlaw20_FdsDoubles.l0_Q a1 r)))))) ∧ ((decide (x8 < (8 : Int))) = false → (((True) ∧ (True) ∧ True) ∧ halterlaw20_FdsDoubles.l0_Q a1 r (.exit 0) ⟨[.any, .v (.one (.sc (.int .i64 a1))), .v (.one (.ptr 0 ⟨0, 0, 0, 0⟩)), .any, .any, .any, .any, .any, .any, .any, .any, .any, .any, .any, .any, .any, .any, .any, .any, .any, .any, .any, .any, .any, .any, .any, .any, .any, .any, .any, .any, .any, .any, .any, .any, .any, .any, .any, .any, .any, .any, .any, .any, .any, .any, .any, .any, .any, .any, .any, .any, .any, .any, .any, .any, .any, .any, .any, .any, .any, .any, .any, .any, .any, .any, .any, .any, .any, .any, .any, .any, .any, .any, .any, .any, .any, .any, .any, .any, .any, .any, .any, .any, .any, .any, .any, .any, .any, .any, .any, .any, .any, .any, .any, .any, .any, .any, .any, .any, .any, .any, .any, .any, .any, .any, .any, .any, .any, .any, .any, .any, .any, .any, .any, .any, .any, .any, .any, .any, .any, .any, .any, .any, .any, .any, .any, .any, .any, .any, .any, .any, .any, .any, .any, .any, .any, .any, .any, .any, .any, .any, .any], [.ex false [.row 8 (.int .i64) x7] 22], 0⟩)))) (by kernel_rfl) ?_)
    refine ⟨trivial, ?_⟩
    refine ⟨fun b16 => ?_, fun b16 => ?_⟩
    · rw [if_pos (of_decide_eq_true b16)] at h
      refine ⟨trivial, ?_⟩
      refine ⟨trivial, ?_⟩
      obtain ⟨g20, h⟩ := of_guard h
      refine ⟨g20, ?_⟩
      obtain ⟨g19, h⟩ := of_guard h
      refine ⟨g19, ?_⟩
      refine ⟨trivial, ?_⟩
      refine ⟨(by decide), ?_⟩
      refine ⟨trivial, ?_⟩
      obtain ⟨g18, h⟩ := of_guard h
      refine ⟨g18, ?_⟩
      obtain ⟨g17, h⟩ := of_guard h
      refine ⟨g17, ?_⟩
      refine ⟨trivial, ?_⟩
      refine ⟨trivial, ?_⟩
      exact ⟨⟨trivial, trivial, trivial⟩, halterlaw20_FdsDoubles.l0_ok a1 n (List.set x7 (Int.toNat x8) (IntKind.wrap .i64 ((Int.tmod (IntKind.wrap .u64 ((List.getD x7 (Int.toNat x8) (0 : Int)))) (33 : Int))))) (IntKind.wrap .i64 (x8 + (1 : Int))) r h⟩
    · rw [if_neg (of_decide_eq_false b16)] at h
      obtain rfl := Option.some.inj h
      exact ⟨⟨trivial, trivial, trivial⟩, rfl, rfl⟩
def halterlaw20_FdsDoubles.f (a0 : (List Int)) (a1 : Int) : Option Bool :=
  (halterlaw20_FdsDoubles.l0 a1 FUEL a0 (0 : Int)).bind fun t15 =>
  (fds_At.f t15 (IntKind.wrap .i64 ((Int.tmod (IntKind.wrap .u64 (a1)) (8 : Int))))).bind fun t23 =>
  (fds_Dup.f t15 (IntKind.wrap .i64 ((Int.tmod (IntKind.wrap .u64 (a1)) (8 : Int))))).bind fun t24 =>
  if ¬ (t23.2 = none) then
    (num.f t23.2).bind fun t26 =>
    if t26 = (9 : Int) then
      (num.f t24.2.2).bind fun t28 =>
      if t28 = (9 : Int) then
        halterlaw20_sure.f.bind fun t30 =>
        some t30
      else
        some false
    else
      some false
  else
    if ¬ (t24.2.2 = none) then
      (num.f t24.2.2).bind fun t32 =>
      if t32 = (24 : Int) then
        (fds_Free.f t15).bind fun t34 =>
        if t34 = (0 : Int) then
          halterlaw20_sure.f.bind fun t36 =>
          some t36
        else
          some false
      else
        some false
    else
      (fds_At.f t24.2.1 t24.1).bind fun t37 =>
      (fds_Drop.f t24.2.1 (IntKind.wrap .i64 ((Int.tmod (IntKind.wrap .u64 (a1)) (8 : Int))))).bind fun t38 =>
      (fds_At.f t38.2.1 t24.1).bind fun t39 =>
      if t37.2 = none then
        if t38.2.2 = none then
          if t39.2 = none then
            if ¬ t24.1 = (IntKind.wrap .i64 ((Int.tmod (IntKind.wrap .u64 (a1)) (8 : Int)))) then
              if t37.1 = t23.1 then
                if t39.1 = t23.1 then
                  (fds_Free.f t24.2.1).bind fun t46 =>
                  (fds_Free.f t15).bind fun t47 =>
                  if t46 = (IntKind.wrap .i64 (t47 - (1 : Int))) then
                    (fds_Files.f t24.2.1).bind fun t49 =>
                    (fds_Files.f t15).bind fun t50 =>
                    if (((List.length t49) : Nat) : Int) = (IntKind.wrap .i64 ((((List.length t50) : Nat) : Int) + (1 : Int))) then
                      halterlaw20_sure.f.bind fun t52 =>
                      some t52
                    else
                      some false
                  else
                    some false
                else
                  some false
              else
                some false
            else
              some false
          else
            some false
        else
          some false
      else
        some false
def halterlaw20_FdsDoubles.R (r : Bool) : Tm := .v (.one (.sc (.bool r)))
theorem halterlaw20_FdsDoubles.fun_ {a0 : (List Int)} {a1 : Int} {r : Bool} (h : halterlaw20_FdsDoubles.f a0 a1 = some r) : Fun cfg 5 [.agg [.row 8 (.int .i64) a0], .one (.sc (.int .i64 a1))] [] (halterlaw20_FdsDoubles.R r) [] := by
  unfold halterlaw20_FdsDoubles.f at h
  refine fun_of_run cfg_ok (f := 5) (fn := Tryd.f5) Tryd.func5 rfl (by kernel_rfl) (rs := [.tmp 4]) rfl (nt := 142) rfl (l := fin) (k := (.adj [] (.adj [] (.adj [.keep [1, 2, 5]] (.sub ((List Int)) (fun _ => (.exit 0)) (fun t15 => ⟨[.any, .v (.one (.sc (.int .i64 a1))), .v (.one (.ptr 0 ⟨0, 0, 0, 0⟩)), .any, .any, .any, .any, .any, .any, .any, .any, .any, .any, .any, .any, .any, .any, .any, .any, .any, .any, .any, .any, .any, .any, .any, .any, .any, .any, .any, .any, .any, .any, .any, .any, .any, .any, .any, .any, .any, .any, .any, .any, .any, .any, .any, .any, .any, .any, .any, .any, .any, .any, .any, .any, .any, .any, .any, .any, .any, .any, .any, .any, .any, .any, .any, .any, .any, .any, .any, .any, .any, .any, .any, .any, .any, .any, .any, .any, .any, .any, .any, .any, .any, .any, .any, .any, .any, .any, .any, .any, .any, .any, .any, .any, .any, .any, .any, .any, .any, .any, .any, .any, .any, .any, .any, .any, .any, .any, .any, .any, .any, .any, .any, .any, .any, .any, .any, .any, .any, .any, .any, .any, .any, .any, .any, .any, .any, .any, .any, .any, .any, .any, .any, .any, .any, .any, .any, .any, .any, .any, .any], [.ex false [.row 8 (.int .i64) t15] 22], 0⟩) (fun t15 => (.call true [] (Int × (Option Int)) (fun t23 => fds_At.R t23) (fun t23 => (.call true [] (Int × (List Int) × (Option Int)) (fun t24 => fds_Dup.R t24) (fun t24 => (.br (.call true [] (Int) (fun t26 => num.R t26) (fun t26 => (.br (.one true (.call true [] (Int) (fun t28 => num.R t28) (fun t28 => (.one true (.one true (.br (.call true [] (Bool) (fun t30 => halterlaw20_sure.R t30) (fun t30 => (.one true (.adj [] (.adj [.drop 0] .nil))))) (.one false (.adj [] (.adj [.drop 0] .nil))))))))) (.one false (.one false (.one false (.one false (.one false (.adj [] (.adj [.drop 0] .nil)))))))))) (.br (.call true [] (Int) (fun t32 => num.R t32) (fun t32 => (.br (.one true (.call true [] (Int) (fun t34 => fds_Free.R t34) (fun t34 => (.one true (.one true (.br (.call true [] (Bool) (fun t36 => halterlaw20_sure.R t36) (fun t36 => (.one true (.adj [] (.adj [.drop 0] .nil))))) (.one false (.adj [] (.adj [.drop 0] .nil))))))))) (.one false (.one false (.one false (.one false (.one false (.adj [] (.adj [.drop 0] .nil)))))))))) (.call true [] (Int × (Option Int)) (fun t37 => fds_At.R t37) (fun t37 => (.call true [] (Int × (List Int) × (Option Int)) (fun t38 => fds_Drop.R t38) (fun t38 => (.call true [] (Int × (Option Int)) (fun t39 => fds_At.R t39) (fun t39 => (.emb (Option.isNone t37.2) (.emb (Option.isNone t38.2.2) (.emb (Option.isNone t39.2) (.emb (t24.1 != (IntKind.wrap .i64 ((Int.tmod (IntKind.wrap .u64 (a1)) (8 : Int))))) (.emb (t37.1 == t23.1) (.emb (t39.1 == t23.1) (.ex (Int) (fun t46 => (.ex (Int) (fun t47 => (.emb (t46 == (IntKind.wrap .i64 (t47 - (1 : Int)))) (.ex ((List Int)) (fun t49 => (.ex ((List Int)) (fun t50 => (.emb ((((List.length t49) : Nat) : Int) == (IntKind.wrap .i64 ((((List.length t50) : Nat) : Int) + (1 : Int)))) (.ex (Bool) (fun t52 => (.dr [(0, ⟨none, .no⟩), (1, ⟨none, .no⟩), (2, ⟨none, .no⟩), (3, ⟨(some true), .no⟩), (4, ⟨(some true), .no⟩), (5, ⟨none, .b true⟩), (6, ⟨none, .no⟩), (7, ⟨(some true), .no⟩), (8, ⟨(some true), .no⟩), (9, ⟨none, .b true⟩), (10, ⟨none, .no⟩), (11, ⟨(some true), .no⟩), (12, ⟨(some true), .no⟩), (13, ⟨(some true), .no⟩), (14, ⟨none, .b true⟩), (15, ⟨none, .no⟩), (16, ⟨(some true), .no⟩), (17, ⟨(some true), .no⟩), (18, ⟨(some true), .no⟩), (19, ⟨none, .b true⟩), (20, ⟨none, .no⟩), (21, ⟨(some true), .no⟩), (22, ⟨(some true), .no⟩), (23, ⟨(some true), .no⟩), (24, ⟨none, .b true⟩), (25, ⟨none, .no⟩), (26, ⟨(some true), .no⟩), (28, ⟨(some true), .no⟩), (27, ⟨(some true), .call true [] (fds_Free.R t46)⟩), (29, ⟨(some true), .call true [] (fds_Free.R t47)⟩), (30, ⟨(some true), .no⟩), (31, ⟨(some true), .no⟩), (32, ⟨none, .b true⟩), (33, ⟨none, .no⟩), (34, ⟨(some true), .no⟩), (37, ⟨(some true), .no⟩), (35, ⟨(some true), .call true [] (fds_Files.R t49)⟩), (36, ⟨(some true), .no⟩), (38, ⟨(some true), .call true [] (fds_Files.R t50)⟩), (39, ⟨(some true), .no⟩), (40, ⟨(some true), .no⟩), (41, ⟨(some true), .no⟩), (42, ⟨none, .b true⟩), (43, ⟨none, .no⟩), (44, ⟨(some true), .call true [] (halterlaw20_sure.R t52)⟩), (45, ⟨none, .b true⟩), (46, ⟨none, .no⟩)] (.adj [] (.adj [.drop 0] .nil))))) (.dr [(0, ⟨none, .no⟩), (1, ⟨none, .no⟩), (2, ⟨none, .no⟩), (3, ⟨(some true), .no⟩), (4, ⟨(some true), .no⟩), (5, ⟨none, .b true⟩), (6, ⟨none, .no⟩), (7, ⟨(some true), .no⟩), (8, ⟨(some true), .no⟩), (9, ⟨none, .b true⟩), (10, ⟨none, .no⟩), (11, ⟨(some true), .no⟩), (12, ⟨(some true), .no⟩), (13, ⟨(some true), .no⟩), (14, ⟨none, .b true⟩), (15, ⟨none, .no⟩), (16, ⟨(some true), .no⟩), (17, ⟨(some true), .no⟩), (18, ⟨(some true), .no⟩), (19, ⟨none, .b true⟩), (20, ⟨none, .no⟩), (21, ⟨(some true), .no⟩), (22, ⟨(some true), .no⟩), (23, ⟨(some true), .no⟩), (24, ⟨none, .b true⟩), (25, ⟨none, .no⟩), (26, ⟨(some true), .no⟩), (28, ⟨(some true), .no⟩), (27, ⟨(some true), .call true [] (fds_Free.R t46)⟩), (29, ⟨(some true), .call true [] (fds_Free.R t47)⟩), (30, ⟨(some true), .no⟩), (31, ⟨(some true), .no⟩), (32, ⟨none, .b true⟩), (33, ⟨none, .no⟩), (34, ⟨(some true), .no⟩), (37, ⟨(some true), .no⟩), (35, ⟨(some true), .call true [] (fds_Files.R t49)⟩), (36, ⟨(some true), .no⟩), (38, ⟨(some true), .call true [] (fds_Files.R t50)⟩), (39, ⟨(some true), .no⟩), (40, ⟨(some true), .no⟩), (41, ⟨(some true), .no⟩), (42, ⟨none, .b true⟩), (43, ⟨none, .no⟩), (44, ⟨(some false), .no⟩), (45, ⟨none, .b false⟩), (46, ⟨none, .no⟩)] (.adj [] (.adj [.drop 0] .nil)))))))) (.dr [(0, ⟨none, .no⟩), (1, ⟨none, .no⟩), (2, ⟨none, .no⟩), (3, ⟨(some true), .no⟩), (4, ⟨(some true), .no⟩), (5, ⟨none, .b true⟩), (6, ⟨none, .no⟩), (7, ⟨(some true), .no⟩), (8, ⟨(some true), .no⟩), (9, ⟨none, .b true⟩), (10, ⟨none, .no⟩), (11, ⟨(some true), .no⟩), (12, ⟨(some true), .no⟩), (13, ⟨(some true), .no⟩), (14, ⟨none, .b true⟩), (15, ⟨none, .no⟩), (16, ⟨(some true), .no⟩), (17, ⟨(some true), .no⟩), (18, ⟨(some true), .no⟩), (19, ⟨none, .b true⟩), (20, ⟨none, .no⟩), (21, ⟨(some true), .no⟩), (22, ⟨(some true), .no⟩), (23, ⟨(some true), .no⟩), (24, ⟨none, .b true⟩), (25, ⟨none, .no⟩), (26, ⟨(some true), .no⟩), (28, ⟨(some true), .no⟩), (27, ⟨(some true), .call true [] (fds_Free.R t46)⟩), (29, ⟨(some true), .call true [] (fds_Free.R t47)⟩), (30, ⟨(some true), .no⟩), (31, ⟨(some true), .no⟩), (32, ⟨none, .b true⟩), (33, ⟨none, .no⟩), (34, ⟨(some false), .no⟩), (37, ⟨(some false), .no⟩), (35, ⟨(some false), .no⟩), (36, ⟨(some false), .no⟩), (38, ⟨(some false), .no⟩), (39, ⟨(some false), .no⟩), (40, ⟨(some false), .no⟩), (41, ⟨(some false), .no⟩), (42, ⟨none, .b false⟩), (43, ⟨none, .no⟩), (44, ⟨(some false), .no⟩), (45, ⟨none, .b false⟩), (46, ⟨none, .no⟩)] (.adj [] (.adj [.drop 0] .nil)))))))) (.dr [(0, ⟨none, .no⟩), (1, ⟨none, .no⟩), (2, ⟨none, .no⟩), (3, ⟨(some true), .no⟩), (4, ⟨(some true), .no⟩), (5, ⟨none, .b true⟩), (6, ⟨none, .no⟩), (7, ⟨(some true), .no⟩), (8, ⟨(some true), .no⟩), (9, ⟨none, .b true⟩), (10, ⟨none, .no⟩), (11, ⟨(some true), .no⟩), (12, ⟨(some true), .no⟩), (13, ⟨(some true), .no⟩), (14, ⟨none, .b true⟩), (15, ⟨none, .no⟩), (16, ⟨(some true), .no⟩), (17, ⟨(some true), .no⟩), (18, ⟨(some true), .no⟩), (19, ⟨none, .b true⟩), (20, ⟨none, .no⟩), (21, ⟨(some true), .no⟩), (22, ⟨(some true), .no⟩), (23, ⟨(some true), .no⟩), (24, ⟨none, .b true⟩), (25, ⟨none, .no⟩), (26, ⟨(some false), .no⟩), (28, ⟨(some false), .no⟩), (27, ⟨(some false), .no⟩), (29, ⟨(some false), .no⟩), (30, ⟨(some false), .no⟩), (31, ⟨(some false), .no⟩), (32, ⟨none, .b false⟩), (33, ⟨none, .no⟩), (34, ⟨(some false), .no⟩), (37, ⟨(some false), .no⟩), (35, ⟨(some false), .no⟩), (36, ⟨(some false), .no⟩), (38, ⟨(some false), .no⟩), (39, ⟨(some false), .no⟩), (40, ⟨(some false), .no⟩), (41, ⟨(some false), .no⟩), (42, ⟨none, .b false⟩), (43, ⟨none, .no⟩), (44, ⟨(some false), .no⟩), (45, ⟨none, .b false⟩), (46, ⟨none, .no⟩)] (.adj [] (.adj [.drop 0] .nil)))) (.dr [(0, ⟨none, .no⟩), (1, ⟨none, .no⟩), (2, ⟨none, .no⟩), (3, ⟨(some true), .no⟩), (4, ⟨(some true), .no⟩), (5, ⟨none, .b true⟩), (6, ⟨none, .no⟩), (7, ⟨(some true), .no⟩), (8, ⟨(some true), .no⟩), (9, ⟨none, .b true⟩), (10, ⟨none, .no⟩), (11, ⟨(some true), .no⟩), (12, ⟨(some true), .no⟩), (13, ⟨(some true), .no⟩), (14, ⟨none, .b true⟩), (15, ⟨none, .no⟩), (16, ⟨(some true), .no⟩), (17, ⟨(some true), .no⟩), (18, ⟨(some true), .no⟩), (19, ⟨none, .b true⟩), (20, ⟨none, .no⟩), (21, ⟨(some false), .no⟩), (22, ⟨(some false), .no⟩), (23, ⟨(some false), .no⟩), (24, ⟨none, .b false⟩), (25, ⟨none, .no⟩), (26, ⟨(some false), .no⟩), (28, ⟨(some false), .no⟩), (27, ⟨(some false), .no⟩), (29, ⟨(some false), .no⟩), (30, ⟨(some false), .no⟩), (31, ⟨(some false), .no⟩), (32, ⟨none, .b false⟩), (33, ⟨none, .no⟩), (34, ⟨(some false), .no⟩), (37, ⟨(some false), .no⟩), (35, ⟨(some false), .no⟩), (36, ⟨(some false), .no⟩), (38, ⟨(some false), .no⟩), (39, ⟨(some false), .no⟩), (40, ⟨(some false), .no⟩), (41, ⟨(some false), .no⟩), (42, ⟨none, .b false⟩), (43, ⟨none, .no⟩), (44, ⟨(some false), .no⟩), (45, ⟨none, .b false⟩), (46, ⟨none, .no⟩)] (.adj [] (.adj [.drop 0] .nil)))) (.dr [(0, ⟨none, .no⟩), (1, ⟨none, .no⟩), (2, ⟨none, .no⟩), (3, ⟨(some true), .no⟩), (4, ⟨(some true), .no⟩), (5, ⟨none, .b true⟩), (6, ⟨none, .no⟩), (7, ⟨(some true), .no⟩), (8, ⟨(some true), .no⟩), (9, ⟨none, .b true⟩), (10, ⟨none, .no⟩), (11, ⟨(some true), .no⟩), (12, ⟨(some true), .no⟩), (13, ⟨(some true), .no⟩), (14, ⟨none, .b true⟩), (15, ⟨none, .no⟩), (16, ⟨(some false), .no⟩), (17, ⟨(some false), .no⟩), (18, ⟨(some false), .no⟩), (19, ⟨none, .b false⟩), (20, ⟨none, .no⟩), (21, ⟨(some false), .no⟩), (22, ⟨(some false), .no⟩), (23, ⟨(some false), .no⟩), (24, ⟨none, .b false⟩), (25, ⟨none, .no⟩), (26, ⟨(some false), .no⟩), (28, ⟨(some false), .no⟩), (27, ⟨(some false), .no⟩), (29, ⟨(some false), .no⟩), (30, ⟨(some false), .no⟩), (31, ⟨(some false), .no⟩), (32, ⟨none, .b false⟩), (33, ⟨none, .no⟩), (34, ⟨(some false), .no⟩), (37, ⟨(some false), .no⟩), (35, ⟨(some false), .no⟩), (36, ⟨(some false), .no⟩), (38, ⟨(some false), .no⟩), (39, ⟨(some false), .no⟩), (40, ⟨(some false), .no⟩), (41, ⟨(some false), .no⟩), (42, ⟨none, .b false⟩), (43, ⟨none, .no⟩), (44, ⟨(some false), .no⟩), (45, ⟨none, .b false⟩), (46, ⟨none, .no⟩)] (.adj [] (.adj [.drop 0] .nil)))) (.dr [(0, ⟨none, .no⟩), (1, ⟨none, .no⟩), (2, ⟨none, .no⟩), (3, ⟨(some true), .no⟩), (4, ⟨(some true), .no⟩), (5, ⟨none, .b true⟩), (6, ⟨none, .no⟩), (7, ⟨(some true), .no⟩), (8, ⟨(some true), .no⟩), (9, ⟨none, .b true⟩), (10, ⟨none, .no⟩), (11, ⟨(some false), .no⟩), (12, ⟨(some false), .no⟩), (13, ⟨(some false), .no⟩), (14, ⟨none, .b false⟩), (15, ⟨none, .no⟩), (16, ⟨(some false), .no⟩), (17, ⟨(some false), .no⟩), (18, ⟨(some false), .no⟩), (19, ⟨none, .b false⟩), (20, ⟨none, .no⟩), (21, ⟨(some false), .no⟩), (22, ⟨(some false), .no⟩), (23, ⟨(some false), .no⟩), (24, ⟨none, .b false⟩), (25, ⟨none, .no⟩), (26, ⟨(some false), .no⟩), (28, ⟨(some false), .no⟩), (27, ⟨(some false), .no⟩), (29, ⟨(some false), .no⟩), (30, ⟨(some false), .no⟩), (31, ⟨(some false), .no⟩), (32, ⟨none, .b false⟩), (33, ⟨none, .no⟩), (34, ⟨(some false), .no⟩), (37, ⟨(some false), .no⟩), (35, ⟨(some false), .no⟩), (36, ⟨(some false), .no⟩), (38, ⟨(some false), .no⟩), (39, ⟨(some false), .no⟩), (40, ⟨(some false), .no⟩), (41, ⟨(some false), .no⟩), (42, ⟨none, .b false⟩), (43, ⟨none, .no⟩), (44, ⟨(some false), .no⟩), (45, ⟨none, .b false⟩), (46, ⟨none, .no⟩)] (.adj [] (.adj [.drop 0] .nil)))) (.dr [(0, ⟨none, .no⟩), (1, ⟨none, .no⟩), (2, ⟨none, .no⟩), (3, ⟨(some true), .no⟩), (4, ⟨(some true), .no⟩), (5, ⟨none, .b true⟩), (6, ⟨none, .no⟩), (7, ⟨(some false), .no⟩), (8, ⟨(some false), .no⟩), (9, ⟨none, .b false⟩), (10, ⟨none, .no⟩), (11, ⟨(some false), .no⟩), (12, ⟨(some false), .no⟩), (13, ⟨(some false), .no⟩), (14, ⟨none, .b false⟩), (15, ⟨none, .no⟩), (16, ⟨(some false), .no⟩), (17, ⟨(some false), .no⟩), (18, ⟨(some false), .no⟩), (19, ⟨none, .b false⟩), (20, ⟨none, .no⟩), (21, ⟨(some false), .no⟩), (22, ⟨(some false), .no⟩), (23, ⟨(some false), .no⟩), (24, ⟨none, .b false⟩), (25, ⟨none, .no⟩), (26, ⟨(some false), .no⟩), (28, ⟨(some false), .no⟩), (27, ⟨(some false), .no⟩), (29, ⟨(some false), .no⟩), (30, ⟨(some false), .no⟩), (31, ⟨(some false), .no⟩), (32, ⟨none, .b false⟩), (33, ⟨none, .no⟩), (34, ⟨(some false), .no⟩), (37, ⟨(some false), .no⟩), (35, ⟨(some false), .no⟩), (36, ⟨(some false), .no⟩), (38, ⟨(some false), .no⟩), (39, ⟨(some false), .no⟩), (40, ⟨(some false), .no⟩), (41, ⟨(some false), .no⟩), (42, ⟨none, .b false⟩), (43, ⟨none, .no⟩), (44, ⟨(some false), .no⟩), (45, ⟨none, .b false⟩), (46, ⟨none, .no⟩)] (.adj [] (.adj [.drop 0] .nil)))) (.dr [(0, ⟨none, .no⟩), (1, ⟨none, .no⟩), (2, ⟨none, .no⟩), (3, ⟨(some false), .no⟩), (4, ⟨(some false), .no⟩), (5, ⟨none, .b false⟩), (6, ⟨none, .no⟩), (7, ⟨(some false), .no⟩), (8, ⟨(some false), .no⟩), (9, ⟨none, .b false⟩), (10, ⟨none, .no⟩), (11, ⟨(some false), .no⟩), (12, ⟨(some false), .no⟩), (13, ⟨(some false), .no⟩), (14, ⟨none, .b false⟩), (15, ⟨none, .no⟩), (16, ⟨(some false), .no⟩), (17, ⟨(some false), .no⟩), (18, ⟨(some false), .no⟩), (19, ⟨none, .b false⟩), (20, ⟨none, .no⟩), (21, ⟨(some false), .no⟩), (22, ⟨(some false), .no⟩), (23, ⟨(some false), .no⟩), (24, ⟨none, .b false⟩), (25, ⟨none, .no⟩), (26, ⟨(some false), .no⟩), (28, ⟨(some false), .no⟩), (27, ⟨(some false), .no⟩), (29, ⟨(some false), .no⟩), (30, ⟨(some false), .no⟩), (31, ⟨(some false), .no⟩), (32, ⟨none, .b false⟩), (33, ⟨none, .no⟩), (34, ⟨(some false), .no⟩), (37, ⟨(some false), .no⟩), (35, ⟨(some false), .no⟩), (36, ⟨(some false), .no⟩), (38, ⟨(some false), .no⟩), (39, ⟨(some false), .no⟩), (40, ⟨(some false), .no⟩), (41, ⟨(some false), .no⟩), (42, ⟨none, .b false⟩), (43, ⟨none, .no⟩), (44, ⟨(some false), .no⟩), (45, ⟨none, .b false⟩), (46, ⟨none, .no⟩)] (.adj [] (.adj [.drop 0] .nil)))))))))))))))))))))) (to_goal (q := (True ∧ (True ∧ (((True) ∧ True) ∧ (∃ t15 : (List Int), Trip cfg (.loop (cpath (Tryd.f5.body.getD .skip) [1, 0, 1, 0, 0])) ⟨[.any, .v (.one (.sc (.int .i64 a1))), .v (.one (.ptr 0 ⟨0, 0, 0, 0⟩)), .any, .any, .v (.one (.sc (.int .i64 (0 : Int)))), .any, .any, .any, .any, .any, .any, .any, .any, .any, .any, .any, .any, .any, .any, .any, .any, .any, .any, .any, .any, .any, .any, .any, .any, .any, .any, .any, .any, .any, .any, .any, .any, .any, .any, .any, .any, .any, .any, .any, .any, .any, .any, .any, .any, .any, .any, .any, .any, .any, .any, .any, .any, .any, .any, .any, .any, .any, .any, .any, .any, .any, .any, .any, .any, .any, .any, .any, .any, .any, .any, .any, .any, .any, .any, .any, .any, .any, .any, .any, .any, .any, .any, .any, .any, .any, .any, .any, .any, .any, .any, .any, .any, .any, .any, .any, .any, .any, .any, .any, .any, .any, .any, .any, .any, .any, .any, .any, .any, .any, .any, .any, .any, .any, .any, .any, .any, .any, .any, .any, .any, .any, .any, .any, .any, .any, .any, .any, .any, .any, .any, .any, .any, .any, .any, .any, .any], [.ex false [.row 8 (.int .i64) a0] 22], 0⟩ (fun e s => e = (.exit 0) ∧ s = ⟨[.any, .v (.one (.sc (.int .i64 a1))), .v (.one (.ptr 0 ⟨0, 0, 0, 0⟩)), .any, .any, .any, .any, .any, .any, .any, .any, .any, .any, .any, .any, .any, .any, .any, .any, .any, .any, .any, .any, .any, .any, .any, .any, .any, .any, .any, .any, .any, .any, .any, .any, .any, .any, .any, .any, .any, .any, .any, .any, .any, .any, .any, .any, .any, .any, .any, .any, .any, .any, .any, .any, .any, .any, .any, .any, .any, .any, .any, .any, .any, .any, .any, .any, .any, .any, .any, .any, .any, .any, .any, .any, .any, .any, .any, .any, .any, .any, .any, .any, .any, .any, .any, .any, .any, .any, .any, .any, .any, .any, .any, .any, .any, .any, .any, .any, .any, .any, .any, .any, .any, .any, .any, .any, .any, .any, .any, .any, .any, .any, .any, .any, .any, .any, .any, .any, .any, .any, .any, .any, .any, .any, .any, .any, .any, .any, .any, .any, .any, .any, .any, .any, .any, .any, .any, .any, .any, .any, .any], [.ex false [.row 8 (.int .i64) t15] 22], 0⟩) ∧ (True) ∧ (True) ∧ (True) ∧ ((8 : Int) ≠ 0) ∧ (True) ∧ (True) ∧ (∃ t23 : Int × (Option Int), (Fun cfg 8 [.agg [.row 8 (.int .i64) t15], .one (.sc (.int .i64 (IntKind.wrap .i64 ((Int.tmod (IntKind.wrap .u64 (a1)) (8 : Int))))))] [] (fds_At.R t23) [] ∧ True) ∧ (True) ∧ (∃ t24 : Int × (List Int) × (Option Int), (Fun cfg 12 [.agg [.row 8 (.int .i64) t15], .one (.sc (.int .i64 (IntKind.wrap .i64 ((Int.tmod (IntKind.wrap .u64 (a1)) (8 : Int))))))] [] (fds_Dup.R t24) [] ∧ True) ∧ (True) ∧ (True) ∧ (((!(Option.isNone t23.2)) = true → (∃ t26 : Int, (Fun cfg 16 [.one (.err t23.2)] [] (num.R t26) [] ∧ True) ∧ (True) ∧ (((t26 == (9 : Int)) = true → ((t26 == (9 : Int)) = true ∧ (∃ t28 : Int, (Fun cfg 16 [.one (.err t24.2.2)] [] (num.R t28) [] ∧ True) ∧ ((t26 == (9 : Int)) = true ∧ (True) ∧ ((t26 == (9 : Int)) = true ∧ (((t28 == (9 : Int)) = true → (∃ t30 : Bool, (Fun cfg 21 [] [] (halterlaw20_sure.R t30) [] ∧ True) ∧ ((t28 == (9 : Int)) = true ∧ (True ∧ ((True) ∧ ((True) ∧ True) ∧ (.v (.one (.sc (.bool t30))) : Tm) = halterlaw20_FdsDoubles.R r ∧ ([] : List Box) = []))))) ∧ ((t28 == (9 : Int)) = false → ((t28 == (9 : Int)) = false ∧ (True ∧ ((True) ∧ ((True) ∧ True) ∧ (.v (.one (.sc (.bool false))) : Tm) = halterlaw20_FdsDoubles.R r ∧ ([] : List Box) = [])))))))))) ∧ ((t26 == (9 : Int)) = false → ((t26 == (9 : Int)) = false ∧ ((t26 == (9 : Int)) = false ∧ ((t26 == (9 : Int)) = false ∧ (false = false ∧ (false = false ∧ (True ∧ ((True) ∧ ((True) ∧ True) ∧ (.v (.one (.sc (.bool false))) : Tm) = halterlaw20_FdsDoubles.R r ∧ ([] : List Box) = []))))))))))) ∧ ((!(Option.isNone t23.2)) = false → (True) ∧ (((!(Option.isNone t24.2.2)) = true → (∃ t32 : Int, (Fun cfg 16 [.one (.err t24.2.2)] [] (num.R t32) [] ∧ True) ∧ (True) ∧ (((t32 == (24 : Int)) = true → (True) ∧ ((t32 == (24 : Int)) = true ∧ (∃ t34 : Int, (Fun cfg 19 [.agg [.row 8 (.int .i64) t15]] [] (fds_Free.R t34) [] ∧ True) ∧ ((t32 == (24 : Int)) = true ∧ (True) ∧ ((t32 == (24 : Int)) = true ∧ (((t34 == (0 : Int)) = true → (∃ t36 : Bool, (Fun cfg 21 [] [] (halterlaw20_sure.R t36) [] ∧ True) ∧ ((t34 == (0 : Int)) = true ∧ (True ∧ ((True) ∧ ((True) ∧ True) ∧ (.v (.one (.sc (.bool t36))) : Tm) = halterlaw20_FdsDoubles.R r ∧ ([] : List Box) = []))))) ∧ ((t34 == (0 : Int)) = false → ((t34 == (0 : Int)) = false ∧ (True ∧ ((True) ∧ ((True) ∧ True) ∧ (.v (.one (.sc (.bool false))) : Tm) = halterlaw20_FdsDoubles.R r ∧ ([] : List Box) = [])))))))))) ∧ ((t32 == (24 : Int)) = false → ((t32 == (24 : Int)) = false ∧ ((t32 == (24 : Int)) = false ∧ ((t32 == (24 : Int)) = false ∧ (false = false ∧ (false = false ∧ (True ∧ ((True) ∧ ((True) ∧ True) ∧ (.v (.one (.sc (.bool false))) : Tm) = halterlaw20_FdsDoubles.R r ∧ ([] : List Box) = []))))))))))) ∧ ((!(Option.isNone t24.2.2)) = false → (True) ∧ (∃ t37 : Int × (Option Int), (Fun cfg 8 [.agg [.row 8 (.int .i64) t24.2.1], .one (.sc (.int .i64 t24.1))] [] (fds_At.R t37) [] ∧ True) ∧ (True) ∧ (∃ t38 : Int × (List Int) × (Option Int), (Fun cfg 10 [.agg [.row 8 (.int .i64) t24.2.1], .one (.sc (.int .i64 (IntKind.wrap .i64 ((Int.tmod (IntKind.wrap .u64 (a1)) (8 : Int))))))] [] (fds_Drop.R t38) [] ∧ True) ∧ (True) ∧ (True) ∧ (∃ t39 : Int × (Option Int), (Fun cfg 8 [.agg [.row 8 (.int .i64) t38.2.1], .one (.sc (.int .i64 t24.1))] [] (fds_At.R t39) [] ∧ True) ∧ (((Option.isNone t37.2) = true → (((Option.isNone t38.2.2) = true → (((Option.isNone t39.2) = true → (((t24.1 != (IntKind.wrap .i64 ((Int.tmod (IntKind.wrap .u64 (a1)) (8 : Int))))) = true → (((t37.1 == t23.1) = true → (((t39.1 == t23.1) = true → (∃ t46 : Int, (∃ t47 : Int, (((t46 == (IntKind.wrap .i64 (t47 - (1 : Int)))) = true → (∃ t49 : (List Int), (∃ t50 : (List Int), ((((((List.length t49) : Nat) : Int) == (IntKind.wrap .i64 ((((List.length t50) : Nat) : Int) + (1 : Int)))) = true → (∃ t52 : Bool, (True) ∧ ((Option.isNone t37.2) = true ∧ True) ∧ ((Option.isNone t37.2) = true ∧ True) ∧ ((Option.isNone t37.2) = true) ∧ ((Option.isNone t38.2.2) = true ∧ True) ∧ ((Option.isNone t38.2.2) = true ∧ True) ∧ ((Option.isNone t38.2.2) = true) ∧ ((Option.isNone t39.2) = true ∧ True) ∧ ((Option.isNone t39.2) = true ∧ True) ∧ ((Option.isNone t39.2) = true ∧ True) ∧ ((Option.isNone t39.2) = true) ∧ ((t24.1 != (IntKind.wrap .i64 ((Int.tmod (IntKind.wrap .u64 (a1)) (8 : Int))))) = true ∧ True) ∧ ((t24.1 != (IntKind.wrap .i64 ((Int.tmod (IntKind.wrap .u64 (a1)) (8 : Int))))) = true ∧ True) ∧ ((t24.1 != (IntKind.wrap .i64 ((Int.tmod (IntKind.wrap .u64 (a1)) (8 : Int))))) = true ∧ True) ∧ ((t24.1 != (IntKind.wrap .i64 ((Int.tmod (IntKind.wrap .u64 (a1)) (8 : Int))))) = true) ∧ ((t37.1 == t23.1) = true ∧ True) ∧ ((t37.1 == t23.1) = true ∧ True) ∧ ((t37.1 == t23.1) = true ∧ True) ∧ ((t37.1 == t23.1) = true) ∧ ((t39.1 == t23.1) = true ∧ True) ∧ ((t39.1 == t23.1) = true ∧ True) ∧ ((t39.1 == t23.1) = true ∧ Fun cfg 19 [.agg [.row 8 (.int .i64) t24.2.1]] [] (fds_Free.R t46) [] ∧ True) ∧ ((t39.1 == t23.1) = true ∧ Fun cfg 19 [.agg [.row 8 (.int .i64) t15]] [] (fds_Free.R t47) [] ∧ True) ∧ ((t39.1 == t23.1) = true ∧ True) ∧ ((t39.1 == t23.1) = true ∧ True) ∧ ((t39.1 == t23.1) = true) ∧ ((t46 == (IntKind.wrap .i64 (t47 - (1 : Int)))) = true ∧ True) ∧ ((t46 == (IntKind.wrap .i64 (t47 - (1 : Int)))) = true ∧ True) ∧ ((t46 == (IntKind.wrap .i64 (t47 - (1 : Int)))) = true ∧ Fun cfg 18 [.agg [.row 8 (.int .i64) t24.2.1]] [] (fds_Files.R t49) [] ∧ True) ∧ ((t46 == (IntKind.wrap .i64 (t47 - (1 : Int)))) = true ∧ True) ∧ ((t46 == (IntKind.wrap .i64 (t47 - (1 : Int)))) = true ∧ Fun cfg 18 [.agg [.row 8 (.int .i64) t15]] [] (fds_Files.R t50) [] ∧ True) ∧ ((t46 == (IntKind.wrap .i64 (t47 - (1 : Int)))) = true ∧ True) ∧ ((t46 == (IntKind.wrap .i64 (t47 - (1 : Int)))) = true ∧ True) ∧ ((t46 == (IntKind.wrap .i64 (t47 - (1 : Int)))) = true ∧ True) ∧ ((t46 == (IntKind.wrap .i64 (t47 - (1 : Int)))) = true) ∧ (((((List.length t49) : Nat) : Int) == (IntKind.wrap .i64 ((((List.length t50) : Nat) : Int) + (1 : Int)))) = true ∧ Fun cfg 21 [] [] (halterlaw20_sure.R t52) [] ∧ True) ∧ (((((List.length t49) : Nat) : Int) == (IntKind.wrap .i64 ((((List.length t50) : Nat) : Int) + (1 : Int)))) = true) ∧ (True ∧ ((True) ∧ ((True) ∧ True) ∧ (.v (.one (.sc (.bool t52))) : Tm) = halterlaw20_FdsDoubles.R r ∧ ([] : List Box) = [])))) ∧ (((((List.length t49) : Nat) : Int) == (IntKind.wrap .i64 ((((List.length t50) : Nat) : Int) + (1 : Int)))) = false → (True) ∧ ((Option.isNone t37.2) = true ∧ True) ∧ ((Option.isNone t37.2) = true ∧ True) ∧ ((Option.isNone t37.2) = true) ∧ ((Option.isNone t38.2.2) = true ∧ True) ∧ ((Option.isNone t38.2.2) = true ∧ True) ∧ ((Option.isNone t38.2.2) = true) ∧ ((Option.isNone t39.2) = true ∧ True) ∧ ((Option.isNone t39.2) = true ∧ True) ∧ ((Option.isNone t39.2) = true ∧ True) ∧ ((Option.isNone t39.2) = true) ∧ ((t24.1 != (IntKind.wrap .i64 ((Int.tmod (IntKind.wrap .u64 (a1)) (8 : Int))))) = true ∧ True) ∧ ((t24.1 != (IntKind.wrap .i64 ((Int.tmod (IntKind.wrap .u64 (a1)) (8 : Int))))) = true ∧ True) ∧ ((t24.1 != (IntKind.wrap .i64 ((Int.tmod (IntKind.wrap .u64 (a1)) (8 : Int))))) = true ∧ True) ∧ ((t24.1 != (IntKind.wrap .i64 ((Int.tmod (IntKind.wrap .u64 (a1)) (8 : Int))))) = true) ∧ ((t37.1 == t23.1) = true ∧ True) ∧ ((t37.1 == t23.1) = true ∧ True) ∧ ((t37.1 == t23.1) = true ∧ True) ∧ ((t37.1 == t23.1) = true) ∧ ((t39.1 == t23.1) = true ∧ True) ∧ ((t39.1 == t23.1) = true ∧ True) ∧ ((t39.1 == t23.1) = true ∧ Fun cfg 19 [.agg [.row 8 (.int .i64) t24.2.1]] [] (fds_Free.R t46) [] ∧ True) ∧ ((t39.1 == t23.1) = true ∧ Fun cfg 19 [.agg [.row 8 (.int .i64) t15]] [] (fds_Free.R t47) [] ∧ True) ∧ ((t39.1 == t23.1) = true ∧ True) ∧ ((t39.1 == t23.1) = true ∧ True) ∧ ((t39.1 == t23.1) = true) ∧ ((t46 == (IntKind.wrap .i64 (t47 - (1 : Int)))) = true ∧ True) ∧ ((t46 == (IntKind.wrap .i64 (t47 - (1 : Int)))) = true ∧ True) ∧ ((t46 == (IntKind.wrap .i64 (t47 - (1 : Int)))) = true ∧ Fun cfg 18 [.agg [.row 8 (.int .i64) t24.2.1]] [] (fds_Files.R t49) [] ∧ True) ∧ ((t46 == (IntKind.wrap .i64 (t47 - (1 : Int)))) = true ∧ True) ∧ ((t46 == (IntKind.wrap .i64 (t47 - (1 : Int)))) = true ∧ Fun cfg 18 [.agg [.row 8 (.int .i64) t15]] [] (fds_Files.R t50) [] ∧ True) ∧ ((t46 == (IntKind.wrap .i64 (t47 - (1 : Int)))) = true ∧ True) ∧ ((t46 == (IntKind.wrap .i64 (t47 - (1 : Int)))) = true ∧ True) ∧ ((t46 == (IntKind.wrap .i64 (t47 - (1 : Int)))) = true ∧ True) ∧ ((t46 == (IntKind.wrap .i64 (t47 - (1 : Int)))) = true) ∧ (((((List.length t49) : Nat) : Int) == (IntKind.wrap .i64 ((((List.length t50) : Nat) : Int) + (1 : Int)))) = false) ∧ (((((List.length t49) : Nat) : Int) == (IntKind.wrap .i64 ((((List.length t50) : Nat) : Int) + (1 : Int)))) = false) ∧ (True ∧ ((True) ∧ ((True) ∧ True) ∧ (.v (.one (.sc (.bool false))) : Tm) = halterlaw20_FdsDoubles.R r ∧ ([] : List Box) = []))))))) ∧ ((t46 == (IntKind.wrap .i64 (t47 - (1 : Int)))) = false → (True) ∧ ((Option.isNone t37.2) = true ∧ True) ∧ ((Option.isNone t37.2) = true ∧ True) ∧ ((Option.isNone t37.2) = true) ∧ ((Option.isNone t38.2.2) = true ∧ True) ∧ ((Option.isNone t38.2.2) = true ∧ True) ∧ ((Option.isNone t38.2.2) = true) ∧ ((Option.isNone t39.2) = true ∧ True) ∧ ((Option.isNone t39.2) = true ∧ True) ∧ ((Option.isNone t39.2) = true ∧ True) ∧ ((Option.isNone t39.2) = true) ∧ ((t24.1 != (IntKind.wrap .i64 ((Int.tmod (IntKind.wrap .u64 (a1)) (8 : Int))))) = true ∧ True) ∧ ((t24.1 != (IntKind.wrap .i64 ((Int.tmod (IntKind.wrap .u64 (a1)) (8 : Int))))) = true ∧ True) ∧ ((t24.1 != (IntKind.wrap .i64 ((Int.tmod (IntKind.wrap .u64 (a1)) (8 : Int))))) = true ∧ True) ∧ ((t24.1 != (IntKind.wrap .i64 ((Int.tmod (IntKind.wrap .u64 (a1)) (8 : Int))))) = true) ∧ ((t37.1 == t23.1) = true ∧ True) ∧ ((t37.1 == t23.1) = true ∧ True) ∧ ((t37.1 == t23.1) = true ∧ True) ∧ ((t37.1 == t23.1) = true) ∧ ((t39.1 == t23.1) = true ∧ True) ∧ ((t39.1 == t23.1) = true ∧ True) ∧ ((t39.1 == t23.1) = true ∧ Fun cfg 19 [.agg [.row 8 (.int .i64) t24.2.1]] [] (fds_Free.R t46) [] ∧ True) ∧ ((t39.1 == t23.1) = true ∧ Fun cfg 19 [.agg [.row 8 (.int .i64) t15]] [] (fds_Free.R t47) [] ∧ True) ∧ ((t39.1 == t23.1) = true ∧ True) ∧ ((t39.1 == t23.1) = true ∧ True) ∧ ((t39.1 == t23.1) = true) ∧ ((t46 == (IntKind.wrap .i64 (t47 - (1 : Int)))) = false) ∧ ((t46 == (IntKind.wrap .i64 (t47 - (1 : Int)))) = false) ∧ ((t46 == (IntKind.wrap .i64 (t47 - (1 : Int)))) = false) ∧ ((t46 == (IntKind.wrap .i64 (t47 - (1 : Int)))) = false) ∧ ((t46 == (IntKind.wrap .i64 (t47 - (1 : Int)))) = false) ∧ ((t46 == (IntKind.wrap .i64 (t47 - (1 : Int)))) = false) ∧ ((t46 == (IntKind.wrap .i64 (t47 - (1 : Int)))) = false) ∧ ((t46 == (IntKind.wrap .i64 (t47 - (1 : Int)))) = false) ∧ ((t46 == (IntKind.wrap .i64 (t47 - (1 : Int)))) = false) ∧ (false = false) ∧ (false = false) ∧ (True ∧ ((True) ∧ ((True) ∧ True) ∧ (.v (.one (.sc (.bool false))) : Tm) = halterlaw20_FdsDoubles.R r ∧ ([] : List Box) = []))))))) ∧ ((t39.1 == t23.1) = false → (True) ∧ ((Option.isNone t37.2) = true ∧ True) ∧ ((Option.isNone t37.2) = true ∧ True) ∧ ((Option.isNone t37.2) = true) ∧ ((Option.isNone t38.2.2) = true ∧ True) ∧ ((Option.isNone t38.2.2) = true ∧ True) ∧ ((Option.isNone t38.2.2) = true) ∧ ((Option.isNone t39.2) = true ∧ True) ∧ ((Option.isNone t39.2) = true ∧ True) ∧ ((Option.isNone t39.2) = true ∧ True) ∧ ((Option.isNone t39.2) = true) ∧ ((t24.1 != (IntKind.wrap .i64 ((Int.tmod (IntKind.wrap .u64 (a1)) (8 : Int))))) = true ∧ True) ∧ ((t24.1 != (IntKind.wrap .i64 ((Int.tmod (IntKind.wrap .u64 (a1)) (8 : Int))))) = true ∧ True) ∧ ((t24.1 != (IntKind.wrap .i64 ((Int.tmod (IntKind.wrap .u64 (a1)) (8 : Int))))) = true ∧ True) ∧ ((t24.1 != (IntKind.wrap .i64 ((Int.tmod (IntKind.wrap .u64 (a1)) (8 : Int))))) = true) ∧ ((t37.1 == t23.1) = true ∧ True) ∧ ((t37.1 == t23.1) = true ∧ True) ∧ ((t37.1 == t23.1) = true ∧ True) ∧ ((t37.1 == t23.1) = true) ∧ ((t39.1 == t23.1) = false) ∧ ((t39.1 == t23.1) = false) ∧ ((t39.1 == t23.1) = false) ∧ ((t39.1 == t23.1) = false) ∧ ((t39.1 == t23.1) = false) ∧ ((t39.1 == t23.1) = false) ∧ ((t39.1 == t23.1) = false) ∧ (false = false) ∧ (false = false) ∧ (false = false) ∧ (false = false) ∧ (false = false) ∧ (false = false) ∧ (false = false) ∧ (false = false) ∧ (false = false) ∧ (false = false) ∧ (false = false) ∧ (True ∧ ((True) ∧ ((True) ∧ True) ∧ (.v (.one (.sc (.bool false))) : Tm) = halterlaw20_FdsDoubles.R r ∧ ([] : List Box) = []))))) ∧ ((t37.1 == t23.1) = false → (True) ∧ ((Option.isNone t37.2) = true ∧ True) ∧ ((Option.isNone t37.2) = true ∧ True) ∧ ((Option.isNone t37.2) = true) ∧ ((Option.isNone t38.2.2) = true ∧ True) ∧ ((Option.isNone t38.2.2) = true ∧ True) ∧ ((Option.isNone t38.2.2) = true) ∧ ((Option.isNone t39.2) = true ∧ True) ∧ ((Option.isNone t39.2) = true ∧ True) ∧ ((Option.isNone t39.2) = true ∧ True) ∧ ((Option.isNone t39.2) = true) ∧ ((t24.1 != (IntKind.wrap .i64 ((Int.tmod (IntKind.wrap .u64 (a1)) (8 : Int))))) = true ∧ True) ∧ ((t24.1 != (IntKind.wrap .i64 ((Int.tmod (IntKind.wrap .u64 (a1)) (8 : Int))))) = true ∧ True) ∧ ((t24.1 != (IntKind.wrap .i64 ((Int.tmod (IntKind.wrap .u64 (a1)) (8 : Int))))) = true ∧ True) ∧ ((t24.1 != (IntKind.wrap .i64 ((Int.tmod (IntKind.wrap .u64 (a1)) (8 : Int))))) = true) ∧ ((t37.1 == t23.1) = false) ∧ ((t37.1 == t23.1) = false) ∧ ((t37.1 == t23.1) = false) ∧ ((t37.1 == t23.1) = false) ∧ (false = false) ∧ (false = false) ∧ (false = false) ∧ (false = false) ∧ (false = false) ∧ (false = false) ∧ (false = false) ∧ (false = false) ∧ (false = false) ∧ (false = false) ∧ (false = false) ∧ (false = false) ∧ (false = false) ∧ (false = false) ∧ (false = false) ∧ (false = false) ∧ (false = false) ∧ (false = false) ∧ (True ∧ ((True) ∧ ((True) ∧ True) ∧ (.v (.one (.sc (.bool false))) : Tm) = halterlaw20_FdsDoubles.R r ∧ ([] : List Box) = []))))) ∧ ((t24.1 != (IntKind.wrap .i64 ((Int.tmod (IntKind.wrap .u64 (a1)) (8 : Int))))) = false → (True) ∧ ((Option.isNone t37.2) = true ∧ True) ∧ ((Option.isNone t37.2) = true ∧ True) ∧ ((Option.isNone t37.2) = true) ∧ ((Option.isNone t38.2.2) = true ∧ True) ∧ ((Option.isNone t38.2.2) = true ∧ True) ∧ ((Option.isNone t38.2.2) = true) ∧ ((Option.isNone t39.2) = true ∧ True) ∧ ((Option.isNone t39.2) = true ∧ True) ∧ ((Option.isNone t39.2) = true ∧ True) ∧ ((Option.isNone t39.2) = true) ∧ ((t24.1 != (IntKind.wrap .i64 ((Int.tmod (IntKind.wrap .u64 (a1)) (8 : Int))))) = false) ∧ ((t24.1 != (IntKind.wrap .i64 ((Int.tmod (IntKind.wrap .u64 (a1)) (8 : Int))))) = false) ∧ ((t24.1 != (IntKind.wrap .i64 ((Int.tmod (IntKind.wrap .u64 (a1)) (8 : Int))))) = false) ∧ ((t24.1 != (IntKind.wrap .i64 ((Int.tmod (IntKind.wrap .u64 (a1)) (8 : Int))))) = false) ∧ (false = false) ∧ (false = false) ∧ (false = false) ∧ (false = false) ∧ (false = false) ∧ (false = false) ∧ (false = false) ∧ (false = false) ∧ (false = false) ∧ (false = false) ∧ (false = false) ∧ (false = false) ∧ (false = false) ∧ (false = false) ∧ (false = false) ∧ (false = false) ∧ (false = false) ∧ (false = false) ∧ (false = false) ∧ (false = false) ∧ (false = false) ∧ (false = false) ∧ (True ∧ ((True) ∧ ((True) ∧ True) ∧ (.v (.one (.sc (.bool false))) : Tm) = halterlaw20_FdsDoubles.R r ∧ ([] : List Box) = []))))) ∧ ((Option.isNone t39.2) = false → (True) ∧ ((Option.isNone t37.2) = true ∧ True) ∧ ((Option.isNone t37.2) = true ∧ True) ∧ ((Option.isNone t37.2) = true) ∧ ((Option.isNone t38.2.2) = true ∧ True) ∧ ((Option.isNone t38.2.2) = true ∧ True) ∧ ((Option.isNone t38.2.2) = true) ∧ ((Option.isNone t39.2) = false) ∧ ((Option.isNone t39.2) = false) ∧ ((Option.isNone t39.2) = false) ∧ ((Option.isNone t39.2) = false) ∧ (false = false) ∧ (false = false) ∧ (false = false) ∧ (false = false) ∧ (false = false) ∧ (false = false) ∧ (false = false) ∧ (false = false) ∧ (false = false) ∧ (false = false) ∧ (false = false) ∧ (false = false) ∧ (false = false) ∧ (false = false) ∧ (false = false) ∧ (false = false) ∧ (false = false) ∧ (false = false) ∧ (false = false) ∧ (false = false) ∧ (false = false) ∧ (false = false) ∧ (false = false) ∧ (false = false) ∧ (false = false) ∧ (false = false) ∧ (True ∧ ((True) ∧ ((True) ∧ True) ∧ (.v (.one (.sc (.bool false))) : Tm) = halterlaw20_FdsDoubles.R r ∧ ([] : List Box) = []))))) ∧ ((Option.isNone t38.2.2) = false → (True) ∧ ((Option.isNone t37.2) = true ∧ True) ∧ ((Option.isNone t37.2) = true ∧ True) ∧ ((Option.isNone t37.2) = true) ∧ ((Option.isNone t38.2.2) = false) ∧ ((Option.isNone t38.2.2) = false) ∧ ((Option.isNone t38.2.2) = false) ∧ (false = false) ∧ (false = false) ∧ (false = false) ∧ (false = false) ∧ (false = false) ∧ (false = false) ∧ (false = false) ∧ (false = false) ∧ (false = false) ∧ (false = false) ∧ (false = false) ∧ (false = false) ∧ (false = false) ∧ (false = false) ∧ (false = false) ∧ (false = false) ∧ (false = false) ∧ (false = false) ∧ (false = false) ∧ (false = false) ∧ (false = false) ∧ (false = false) ∧ (false = false) ∧ (false = false) ∧ (false = false) ∧ (false = false) ∧ (false = false) ∧ (false = false) ∧ (false = false) ∧ (false = false) ∧ (True ∧ ((True) ∧ ((True) ∧ True) ∧ (.v (.one (.sc (.bool false))) : Tm) = halterlaw20_FdsDoubles.R r ∧ ([] : List Box) = []))))) ∧ ((Option.isNone t37.2) = false → (True) ∧ ((Option.isNone t37.2) = false) ∧ ((Option.isNone t37.2) = false) ∧ ((Option.isNone t37.2) = false) ∧ (false = false) ∧ (false = false) ∧ (false = false) ∧ (false = false) ∧ (false = false) ∧ (false = false) ∧ (false = false) ∧ (false = false) ∧ (false = false) ∧ (false = false) ∧ (false = false) ∧ (false = false) ∧ (false = false) ∧ (false = false) ∧ (false = false) ∧ (false = false) ∧ (false = false) ∧ (false = false) ∧ (false = false) ∧ (false = false) ∧ (false = false) ∧ (false = false) ∧ (false = false) ∧ (false = false) ∧ (false = false) ∧ (false = false) ∧ (false = false) ∧ (false = false) ∧ (false = false) ∧ (false = false) ∧ (false = false) ∧ (false = false) ∧ (false = false) ∧ (True ∧ ((True) ∧ ((True) ∧ True) ∧ (.v (.one (.sc (.bool false))) : Tm) = halterlaw20_FdsDoubles.R r ∧ ([] : List Box) = [])))))))))))))))))) (by kernel_rfl) ?_)
  refine ⟨trivial, ?_⟩
  refine ⟨trivial, ?_⟩
  obtain ⟨t15, ht15, h⟩ := of_bind h
  refine ⟨⟨trivial, trivial⟩, t15, Trip.loop FUEL (halterlaw20_FdsDoubles.l0_ok a1 FUEL a0 (0 : Int) t15 ht15), ?_⟩
  refine ⟨trivial, ?_⟩
  refine ⟨trivial, ?_⟩
  refine ⟨trivial, ?_⟩
  refine ⟨(by decide), ?_⟩
  refine ⟨trivial, ?_⟩
  refine ⟨trivial, ?_⟩
  obtain ⟨t23, ht23, h⟩ := of_bind h
  refine ⟨t23, ⟨fds_At.fun_ ht23, trivial⟩, ?_⟩
  refine ⟨trivial, ?_⟩
  obtain ⟨t24, ht24, h⟩ := of_bind h
  refine ⟨t24, ⟨fds_Dup.fun_ ht24, trivial⟩, ?_⟩
  refine ⟨trivial, ?_⟩
  refine ⟨trivial, ?_⟩
  refine ⟨fun b25 => ?_, fun b25 => ?_⟩
  · rw [if_pos (none_f (not_t b25))] at h
    obtain ⟨t26, ht26, h⟩ := of_bind h
    refine ⟨t26, ⟨num.fun_ ht26, trivial⟩, ?_⟩
    refine ⟨trivial, ?_⟩
    refine ⟨fun b27 => ?_, fun b27 => ?_⟩
    · rw [if_pos (beq_t b27)] at h
      refine ⟨b27, ?_⟩
      obtain ⟨t28, ht28, h⟩ := of_bind h
      refine ⟨t28, ⟨num.fun_ ht28, trivial⟩, ?_⟩
      refine ⟨b27, ?_⟩
      refine ⟨trivial, ?_⟩
      refine ⟨b27, ?_⟩
      refine ⟨fun b29 => ?_, fun b29 => ?_⟩
      · rw [if_pos (beq_t b29)] at h
        obtain ⟨t30, ht30, h⟩ := of_bind h
        refine ⟨t30, ⟨halterlaw20_sure.fun_ ht30, trivial⟩, ?_⟩
        refine ⟨b29, ?_⟩
        refine ⟨trivial, ?_⟩
        obtain rfl := Option.some.inj h
        exact ⟨trivial, ⟨trivial, trivial⟩, rfl, rfl⟩
      · rw [if_neg (beq_f b29)] at h
        refine ⟨b29, ?_⟩
        refine ⟨trivial, ?_⟩
        obtain rfl := Option.some.inj h
        exact ⟨trivial, ⟨trivial, trivial⟩, rfl, rfl⟩
    · rw [if_neg (beq_f b27)] at h
      refine ⟨b27, ?_⟩
      refine ⟨b27, ?_⟩
      refine ⟨b27, ?_⟩
      refine ⟨rfl, ?_⟩
      refine ⟨rfl, ?_⟩
      refine ⟨trivial, ?_⟩
      obtain rfl := Option.some.inj h
      exact ⟨trivial, ⟨trivial, trivial⟩, rfl, rfl⟩
  · rw [if_neg (not_not_intro (none_t (not_f b25)))] at h
    refine ⟨trivial, ?_⟩
    refine ⟨fun b31 => ?_, fun b31 => ?_⟩
    · rw [if_pos (none_f (not_t b31))] at h
      obtain ⟨t32, ht32, h⟩ := of_bind h
      refine ⟨t32, ⟨num.fun_ ht32, trivial⟩, ?_⟩
      refine ⟨trivial, ?_⟩
      refine ⟨fun b33 => ?_, fun b33 => ?_⟩
      · rw [if_pos (beq_t b33)] at h
        refine ⟨trivial, ?_⟩
        refine ⟨b33, ?_⟩
        obtain ⟨t34, ht34, h⟩ := of_bind h
        refine ⟨t34, ⟨fds_Free.fun_ ht34, trivial⟩, ?_⟩
        refine ⟨b33, ?_⟩
        refine ⟨trivial, ?_⟩
        refine ⟨b33, ?_⟩
        refine ⟨fun b35 => ?_, fun b35 => ?_⟩
        · rw [if_pos (beq_t b35)] at h
          obtain ⟨t36, ht36, h⟩ := of_bind h
          refine ⟨t36, ⟨halterlaw20_sure.fun_ ht36, trivial⟩, ?_⟩
          refine ⟨b35, ?_⟩
          refine ⟨trivial, ?_⟩
          obtain rfl := Option.some.inj h
          exact ⟨trivial, ⟨trivial, trivial⟩, rfl, rfl⟩
        · rw [if_neg (beq_f b35)] at h
          refine ⟨b35, ?_⟩
          refine ⟨trivial, ?_⟩
          obtain rfl := Option.some.inj h
          exact ⟨trivial, ⟨trivial, trivial⟩, rfl, rfl⟩
      · rw [if_neg (beq_f b33)] at h
        refine ⟨b33, ?_⟩
        refine ⟨b33, ?_⟩
        refine ⟨b33, ?_⟩
        refine ⟨rfl, ?_⟩
        refine ⟨rfl, ?_⟩
        refine ⟨trivial, ?_⟩
        obtain rfl := Option.some.inj h
        exact ⟨trivial, ⟨trivial, trivial⟩, rfl, rfl⟩
    · rw [if_neg (not_not_intro (none_t (not_f b31)))] at h
      refine ⟨trivial, ?_⟩
      obtain ⟨t37, ht37, h⟩ := of_bind h
      refine ⟨t37, ⟨fds_At.fun_ ht37, trivial⟩, ?_⟩
      refine ⟨trivial, ?_⟩
      obtain ⟨t38, ht38, h⟩ := of_bind h
      refine ⟨t38, ⟨fds_Drop.fun_ ht38, trivial⟩, ?_⟩
      refine ⟨trivial, ?_⟩
      refine ⟨trivial, ?_⟩
      obtain ⟨t39, ht39, h⟩ := of_bind h
      refine ⟨t39, ⟨fds_At.fun_ ht39, trivial⟩, ?_⟩
      refine ⟨fun b40 => ?_, fun b40 => ?_⟩
      · rw [if_pos (none_t b40)] at h
        refine ⟨fun b41 => ?_, fun b41 => ?_⟩
        · rw [if_pos (none_t b41)] at h
          refine ⟨fun b42 => ?_, fun b42 => ?_⟩
          · rw [if_pos (none_t b42)] at h
            refine ⟨fun b43 => ?_, fun b43 => ?_⟩
            · rw [if_pos (bne_t b43)] at h
              refine ⟨fun b44 => ?_, fun b44 => ?_⟩
              · rw [if_pos (beq_t b44)] at h
                refine ⟨fun b45 => ?_, fun b45 => ?_⟩
                · rw [if_pos (beq_t b45)] at h
                  obtain ⟨t46, ht46, h⟩ := of_bind h
                  refine ⟨t46, ?_⟩
                  obtain ⟨t47, ht47, h⟩ := of_bind h
                  refine ⟨t47, ?_⟩
                  refine ⟨fun b48 => ?_, fun b48 => ?_⟩
                  · rw [if_pos (beq_t b48)] at h
                    obtain ⟨t49, ht49, h⟩ := of_bind h
                    refine ⟨t49, ?_⟩
                    obtain ⟨t50, ht50, h⟩ := of_bind h
                    refine ⟨t50, ?_⟩
                    refine ⟨fun b51 => ?_, fun b51 => ?_⟩
                    · rw [if_pos (beq_t b51)] at h
                      obtain ⟨t52, ht52, h⟩ := of_bind h
                      refine ⟨t52, ?_⟩
                      refine ⟨trivial, ⟨b40, trivial⟩, ⟨b40, trivial⟩, b40, ⟨b41, trivial⟩, ⟨b41, trivial⟩, b41, ⟨b42, trivial⟩, ⟨b42, trivial⟩, ⟨b42, trivial⟩, b42, ⟨b43, trivial⟩, ⟨b43, trivial⟩, ⟨b43, trivial⟩, b43, ⟨b44, trivial⟩, ⟨b44, trivial⟩, ⟨b44, trivial⟩, b44, ⟨b45, trivial⟩, ⟨b45, trivial⟩, ⟨b45, ⟨fds_Free.fun_ ht46, trivial⟩⟩, ⟨b45, ⟨fds_Free.fun_ ht47, trivial⟩⟩, ⟨b45, trivial⟩, ⟨b45, trivial⟩, b45, ⟨b48, trivial⟩, ⟨b48, trivial⟩, ⟨b48, ⟨fds_Files.fun_ ht49, trivial⟩⟩, ⟨b48, trivial⟩, ⟨b48, ⟨fds_Files.fun_ ht50, trivial⟩⟩, ⟨b48, trivial⟩, ⟨b48, trivial⟩, ⟨b48, trivial⟩, b48, ⟨b51, ⟨halterlaw20_sure.fun_ ht52, trivial⟩⟩, b51, ?_⟩
                      refine ⟨trivial, ?_⟩
                      obtain rfl := Option.some.inj h
                      exact ⟨trivial, ⟨trivial, trivial⟩, rfl, rfl⟩
                    · rw [if_neg (beq_f b51)] at h
                      refine ⟨trivial, ⟨b40, trivial⟩, ⟨b40, trivial⟩, b40, ⟨b41, trivial⟩, ⟨b41, trivial⟩, b41, ⟨b42, trivial⟩, ⟨b42, trivial⟩, ⟨b42, trivial⟩, b42, ⟨b43, trivial⟩, ⟨b43, trivial⟩, ⟨b43, trivial⟩, b43, ⟨b44, trivial⟩, ⟨b44, trivial⟩, ⟨b44, trivial⟩, b44, ⟨b45, trivial⟩, ⟨b45, trivial⟩, ⟨b45, ⟨fds_Free.fun_ ht46, trivial⟩⟩, ⟨b45, ⟨fds_Free.fun_ ht47, trivial⟩⟩, ⟨b45, trivial⟩, ⟨b45, trivial⟩, b45, ⟨b48, trivial⟩, ⟨b48, trivial⟩, ⟨b48, ⟨fds_Files.fun_ ht49, trivial⟩⟩, ⟨b48, trivial⟩, ⟨b48, ⟨fds_Files.fun_ ht50, trivial⟩⟩, ⟨b48, trivial⟩, ⟨b48, trivial⟩, ⟨b48, trivial⟩, b48, b51, b51, ?_⟩
                      refine ⟨trivial, ?_⟩
                      obtain rfl := Option.some.inj h
                      exact ⟨trivial, ⟨trivial, trivial⟩, rfl, rfl⟩
                  · rw [if_neg (beq_f b48)] at h
                    refine ⟨trivial, ⟨b40, trivial⟩, ⟨b40, trivial⟩, b40, ⟨b41, trivial⟩, ⟨b41, trivial⟩, b41, ⟨b42, trivial⟩, ⟨b42, trivial⟩, ⟨b42, trivial⟩, b42, ⟨b43, trivial⟩, ⟨b43, trivial⟩, ⟨b43, trivial⟩, b43, ⟨b44, trivial⟩, ⟨b44, trivial⟩, ⟨b44, trivial⟩, b44, ⟨b45, trivial⟩, ⟨b45, trivial⟩, ⟨b45, ⟨fds_Free.fun_ ht46, trivial⟩⟩, ⟨b45, ⟨fds_Free.fun_ ht47, trivial⟩⟩, ⟨b45, trivial⟩, ⟨b45, trivial⟩, b45, b48, b48, b48, b48, b48, b48, b48, b48, b48, rfl, rfl, ?_⟩
                    refine ⟨trivial, ?_⟩
                    obtain rfl := Option.some.inj h
                    exact ⟨trivial, ⟨trivial, trivial⟩, rfl, rfl⟩
                · rw [if_neg (beq_f b45)] at h
                  refine ⟨trivial, ⟨b40, trivial⟩, ⟨b40, trivial⟩, b40, ⟨b41, trivial⟩, ⟨b41, trivial⟩, b41, ⟨b42, trivial⟩, ⟨b42, trivial⟩, ⟨b42, trivial⟩, b42, ⟨b43, trivial⟩, ⟨b43, trivial⟩, ⟨b43, trivial⟩, b43, ⟨b44, trivial⟩, ⟨b44, trivial⟩, ⟨b44, trivial⟩, b44, b45, b45, b45, b45, b45, b45, b45, rfl, rfl, rfl, rfl, rfl, rfl, rfl, rfl, rfl, rfl, rfl, ?_⟩
                  refine ⟨trivial, ?_⟩
                  obtain rfl := Option.some.inj h
                  exact ⟨trivial, ⟨trivial, trivial⟩, rfl, rfl⟩
              · rw [if_neg (beq_f b44)] at h
                refine ⟨trivial, ⟨b40, trivial⟩, ⟨b40, trivial⟩, b40, ⟨b41, trivial⟩, ⟨b41, trivial⟩, b41, ⟨b42, trivial⟩, ⟨b42, trivial⟩, ⟨b42, trivial⟩, b42, ⟨b43, trivial⟩, ⟨b43, trivial⟩, ⟨b43, trivial⟩, b43, b44, b44, b44, b44, rfl, rfl, rfl, rfl, rfl, rfl, rfl, rfl, rfl, rfl, rfl, rfl, rfl, rfl, rfl, rfl, rfl, rfl, ?_⟩
                refine ⟨trivial, ?_⟩
                obtain rfl := Option.some.inj h
                exact ⟨trivial, ⟨trivial, trivial⟩, rfl, rfl⟩
            · rw [if_neg (not_not_intro (bne_f b43))] at h
              refine ⟨trivial, ⟨b40, trivial⟩, ⟨b40, trivial⟩, b40, ⟨b41, trivial⟩, ⟨b41, trivial⟩, b41, ⟨b42, trivial⟩, ⟨b42, trivial⟩, ⟨b42, trivial⟩, b42, b43, b43, b43, b43, rfl, rfl, rfl, rfl, rfl, rfl, rfl, rfl, rfl, rfl, rfl, rfl, rfl, rfl, rfl, rfl, rfl, rfl, rfl, rfl, rfl, rfl, ?_⟩
              refine ⟨trivial, ?_⟩
              obtain rfl := Option.some.inj h
              exact ⟨trivial, ⟨trivial, trivial⟩, rfl, rfl⟩
          · rw [if_neg (none_f b42)] at h
            refine ⟨trivial, ⟨b40, trivial⟩, ⟨b40, trivial⟩, b40, ⟨b41, trivial⟩, ⟨b41, trivial⟩, b41, b42, b42, b42, b42, rfl, rfl, rfl, rfl, rfl, rfl, rfl, rfl, rfl, rfl, rfl, rfl, rfl, rfl, rfl, rfl, rfl, rfl, rfl, rfl, rfl, rfl, rfl, rfl, rfl, rfl, ?_⟩
            refine ⟨trivial, ?_⟩
            obtain rfl := Option.some.inj h
            exact ⟨trivial, ⟨trivial, trivial⟩, rfl, rfl⟩
        · rw [if_neg (none_f b41)] at h
          refine ⟨trivial, ⟨b40, trivial⟩, ⟨b40, trivial⟩, b40, b41, b41, b41, rfl, rfl, rfl, rfl, rfl, rfl, rfl, rfl, rfl, rfl, rfl, rfl, rfl, rfl, rfl, rfl, rfl, rfl, rfl, rfl, rfl, rfl, rfl, rfl, rfl, rfl, rfl, rfl, rfl, rfl, ?_⟩
          refine ⟨trivial, ?_⟩
          obtain rfl := Option.some.inj h
          exact ⟨trivial, ⟨trivial, trivial⟩, rfl, rfl⟩
      · rw [if_neg (none_f b40)] at h
        refine ⟨trivial, b40, b40, b40, rfl, rfl, rfl, rfl, rfl, rfl, rfl, rfl, rfl, rfl, rfl, rfl, rfl, rfl, rfl, rfl, rfl, rfl, rfl, rfl, rfl, rfl, rfl, rfl, rfl, rfl, rfl, rfl, rfl, rfl, rfl, rfl, rfl, ?_⟩
        refine ⟨trivial, ?_⟩
        obtain rfl := Option.some.inj h
        exact ⟨trivial, ⟨trivial, trivial⟩, rfl, rfl⟩
end Go.Proofs.YtbpaijnlapedlaaDoorGFdsDoubles
