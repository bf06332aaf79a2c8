/- Printed by gen.py: what functions of the program compute, in plain Lean, and that they do. -/
import Derived.Test.YtfcdlkpoebjghaaE15
import Derived.Test.YtfcdlkpoebjghaaProg
set_option linter.unusedVariables false
set_option maxRecDepth 100000
namespace Go.Proofs.YtfcdlkpoebjghaaGRegsBack
open Go Go.Proofs.YtfcdlkpoebjghaaE
def tiL : List (Nat × TI) := [
  (3, ⟨1, 8, false, .int .i64, [.c (.sc (.int .i64 (0 : Int)))], some (.int .i64)⟩),
  (4, ⟨1, 1, false, .bool, [.c (.sc (.bool false))], some .bool⟩),
  (5, ⟨1, 1, false, .int .u8, [.c (.sc (.int .u8 (0 : Int)))], some (.int .u8)⟩),
  (22, ⟨1, 4, false, .int .u32, [.c (.sc (.int .u32 (0 : Int)))], some (.int .u32)⟩),
  (23, ⟨16, 64, true, (.array 16 22), [.row 16 (.int .u32) (List.replicate 16 (0 : Int))], some (.arr 16 (.int .u32))⟩),
  (24, ⟨1, 8, false, .int .u64, [.c (.sc (.int .u64 (0 : Int)))], some (.int .u64)⟩),
  (25, ⟨4, 32, true, (.array 4 24), [.row 4 (.int .u64) (List.replicate 4 (0 : Int))], some (.arr 4 (.int .u64))⟩),
  (27, ⟨22, 104, true, (.struct [(0, 23), (16, 22), (17, 22), (18, 25)]), [.row 16 (.int .u32) (List.replicate 16 (0 : Int)), .c (.sc (.int .u32 (0 : Int))), .c (.sc (.int .u32 (0 : Int))), .row 4 (.int .u64) (List.replicate 4 (0 : Int))], some (.pair (.arr 16 (.int .u32)) (.pair (.int .u32) (.pair (.int .u32) (.arr 4 (.int .u64)))))⟩),
  (28, ⟨22, 104, true, (.struct [(0, 23), (16, 22), (17, 22), (18, 25)]), [.row 16 (.int .u32) (List.replicate 16 (0 : Int)), .c (.sc (.int .u32 (0 : Int))), .c (.sc (.int .u32 (0 : Int))), .row 4 (.int .u64) (List.replicate 4 (0 : Int))], some (.pair (.arr 16 (.int .u32)) (.pair (.int .u32) (.pair (.int .u32) (.arr 4 (.int .u64)))))⟩),
  (29, ⟨1, 8, false, .int .u64, [.c (.sc (.int .u64 (0 : Int)))], some (.int .u64)⟩),
  (31, ⟨1, 16, false, .iface, [.c (.err none)], none⟩),
  (38, ⟨1, 24, false, (.slice 5), [.c (.sc (.slice none 0 0))], some (.sl (.int .u8))⟩),
  (43, ⟨1, 8, false, .int .i64, [.c (.sc (.int .i64 (0 : Int)))], some (.int .i64)⟩),
  (44, ⟨26, 104, true, (.array 26 22), [.row 26 (.int .u32) (List.replicate 26 (0 : Int))], some (.arr 26 (.int .u32))⟩),
  (50, ⟨1, 24, false, (.slice 22), [.c (.sc (.slice none 0 0))], some (.sl (.int .u32))⟩)]
noncomputable def cfg : Cfg := ⟨Try.prog, 43, [], tiL, [28]⟩
theorem cfg_ok : COk cfg := by
  refine ⟨fun p hp => ?_, by kernel_rfl, fun p hp => ?_, fun t ht => ?_⟩
  · simp only [cfg, tiL, List.mem_cons, List.not_mem_nil, or_false] at hp
    rcases hp with rfl | rfl | rfl | rfl | rfl | rfl | rfl | rfl | rfl | rfl | rfl | rfl | rfl | rfl | rfl <;> exact ⟨by kernel_rfl, by kernel_rfl, by kernel_rfl, by kernel_rfl, by kernel_rfl, by kernel_rfl⟩
  · simp only [cfg, tiL, List.mem_cons, List.not_mem_nil, or_false] at hp
    rcases hp with rfl | rfl | rfl | rfl | rfl | rfl | rfl | rfl | rfl | rfl | rfl | rfl | rfl | rfl | rfl <;> intro fs hfs bl hbl
    · cases hfs
    · cases hfs
    · cases hfs
    · cases hfs
    · cases hfs
    · cases hfs
    · cases hfs
    · cases hfs
      have e : fieldsZ cfg.L 0 [(0, 23), (16, 22), (17, 22), (18, 25)] = some [[.row 16 (.int .u32) (List.replicate 16 (0 : Int))], [.c (.sc (.int .u32 (0 : Int)))], [.c (.sc (.int .u32 (0 : Int)))], [.row 4 (.int .u64) (List.replicate 4 (0 : Int))]] := by kernel_rfl
      rw [e] at hbl
      cases hbl
      exact (by kernel_rfl : encPs (List.flatten [[.row 16 (.int .u32) (List.replicate 16 (0 : Int))], [.c (.sc (.int .u32 (0 : Int)))], [.c (.sc (.int .u32 (0 : Int)))], [.row 4 (.int .u64) (List.replicate 4 (0 : Int))]]) = encPs [.row 16 (.int .u32) (List.replicate 16 (0 : Int)), .c (.sc (.int .u32 (0 : Int))), .c (.sc (.int .u32 (0 : Int))), .row 4 (.int .u64) (List.replicate 4 (0 : Int))])
    · cases hfs
      have e : fieldsZ cfg.L 0 [(0, 23), (16, 22), (17, 22), (18, 25)] = some [[.row 16 (.int .u32) (List.replicate 16 (0 : Int))], [.c (.sc (.int .u32 (0 : Int)))], [.c (.sc (.int .u32 (0 : Int)))], [.row 4 (.int .u64) (List.replicate 4 (0 : Int))]] := by kernel_rfl
      rw [e] at hbl
      cases hbl
      exact (by kernel_rfl : encPs (List.flatten [[.row 16 (.int .u32) (List.replicate 16 (0 : Int))], [.c (.sc (.int .u32 (0 : Int)))], [.c (.sc (.int .u32 (0 : Int)))], [.row 4 (.int .u64) (List.replicate 4 (0 : Int))]]) = encPs [.row 16 (.int .u32) (List.replicate 16 (0 : Int)), .c (.sc (.int .u32 (0 : Int))), .c (.sc (.int .u32 (0 : Int))), .row 4 (.int .u64) (List.replicate 4 (0 : Int))])
    · cases hfs
    · cases hfs
    · cases hfs
    · cases hfs
    · cases hfs
    · cases hfs
  · simp only [cfg, List.mem_cons, List.not_mem_nil, or_false] at ht
    rcases ht with rfl <;> kernel_rfl
def fin : Scr → List Adj
  | .adj l _ => l
  | _ => []
/-! halter/regs.Check -/
def regs_Check.f (a0 : (List Int)) (a1 : Int) (a2 : Int) (a3 : (List Int)) : Option (Option Int) :=
  if a2 ≥ (32 : Int) then
    some (some (22 : Int))
  else
    some none
def regs_Check.R (r : (Option Int)) : Tm := .v (.one (.err r))
theorem regs_Check.fun_ {a0 : (List Int)} {a1 : Int} {a2 : Int} {a3 : (List Int)} {r : (Option Int)} (h : regs_Check.f a0 a1 a2 a3 = some r) : Fun cfg 12 [.agg [.row 16 (.int .u32) a0, .c (.sc (.int .u32 a1)), .c (.sc (.int .u32 a2)), .row 4 (.int .u64) a3]] [] (regs_Check.R r) [] := by
  unfold regs_Check.f at h
  refine fun_of_run cfg_ok (f := 12) (fn := Try.f12) Try.func12 rfl (by kernel_rfl) (rs := [.tmp 2]) rfl (nt := 7) rfl (l := fin) (k := (.br (.adj [] (.adj [] (.adj [.drop 0] .nil))) (.adj [] (.adj [] (.adj [] (.adj [.drop 0] .nil)))))) (to_goal (q := (True) ∧ (True) ∧ (((decide (a2 ≥ (32 : Int))) = true → (True ∧ (True ∧ ((True) ∧ ((True) ∧ True) ∧ (.v (.one (.err (some (22 : Int)))) : Tm) = regs_Check.R r ∧ ([] : List Box) = [])))) ∧ ((decide (a2 ≥ (32 : Int))) = false → (True ∧ (True ∧ (True ∧ ((True) ∧ ((True) ∧ True) ∧ (.v (.one (.err none)) : Tm) = regs_Check.R r ∧ ([] : List Box) = []))))))) (by kernel_rfl) ?_)
  refine ⟨trivial, ?_⟩
  refine ⟨trivial, ?_⟩
  refine ⟨fun b1 => ?_, fun b1 => ?_⟩
  · rw [if_pos (of_decide_eq_true b1)] at h
    refine ⟨trivial, ?_⟩
    refine ⟨trivial, ?_⟩
    obtain rfl := Option.some.inj h
    exact ⟨trivial, ⟨trivial, trivial⟩, rfl, rfl⟩
  · rw [if_neg (of_decide_eq_false b1)] at h
    refine ⟨trivial, ?_⟩
    refine ⟨trivial, ?_⟩
    refine ⟨trivial, ?_⟩
    obtain rfl := Option.some.inj h
    exact ⟨trivial, ⟨trivial, trivial⟩, rfl, rfl⟩
/-! halter/regs.words -/
def regs_words.l0 (a0 : (List Int)) (a1 : Int) (a2 : Int) (a3 : (List Int)) : Nat → (List Int) → Int → Option (List Int)
  | 0, _, _ => none
  | n + 1, x9, x10 =>
    if x10 < (4 : Int) then
      if 0 ≤ x10 ∧ x10 < ((4 : Nat) : Int) then
        if 0 ≤ (IntKind.wrap .i64 ((18 : Int) + (IntKind.wrap .i64 ((2 : Int) * x10)))) ∧ (IntKind.wrap .i64 ((18 : Int) + (IntKind.wrap .i64 ((2 : Int) * x10)))) < ((26 : Nat) : Int) then
          if (Int.toNat (IntKind.wrap .i64 ((18 : Int) + (IntKind.wrap .i64 ((2 : Int) * x10))))) < 26 then
            if 0 ≤ (IntKind.wrap .i64 ((IntKind.wrap .i64 ((18 : Int) + (IntKind.wrap .i64 ((2 : Int) * x10)))) + (1 : Int))) ∧ (IntKind.wrap .i64 ((IntKind.wrap .i64 ((18 : Int) + (IntKind.wrap .i64 ((2 : Int) * x10)))) + (1 : Int))) < ((26 : Nat) : Int) then
              if (Int.toNat (IntKind.wrap .i64 ((IntKind.wrap .i64 ((18 : Int) + (IntKind.wrap .i64 ((2 : Int) * x10)))) + (1 : Int)))) < 26 then
                regs_words.l0 a0 a1 a2 a3 n (List.set (List.set x9 (Int.toNat (IntKind.wrap .i64 ((18 : Int) + (IntKind.wrap .i64 ((2 : Int) * x10))))) (IntKind.wrap .u32 ((List.getD a3 (Int.toNat x10) (0 : Int))))) (Int.toNat (IntKind.wrap .i64 ((IntKind.wrap .i64 ((18 : Int) + (IntKind.wrap .i64 ((2 : Int) * x10)))) + (1 : Int)))) (IntKind.wrap .u32 ((shr .u64 (List.getD a3 (Int.toNat x10) (0 : Int)) (32 : Int))))) (IntKind.wrap .i64 (x10 + (1 : Int)))
              else none
            else none
          else none
        else none
      else none
    else
      some x9
def regs_words.l0_S (a0 : (List Int)) (a1 : Int) (a2 : Int) (a3 : (List Int)) (x9 : List Int) (x10 : Int) : St := ⟨[.any, .any, .v (.one (.ptr 1 ⟨0, 0, 0, 0⟩)), .v (.one (.ptr 2 ⟨0, 0, 0, 0⟩)), .any, .any, .any, .any, .any, .any, .any, .any, .any, .any, .any, .any, .any, .v (.agg [.row 4 (.int .u64) a3]), .v (.one (.sc (.int .i64 x10))), .any, .any, .any, .any, .any, .any, .any, .any, .any, .any, .any, .any, .any, .any, .any, .any, .any, .any, .any], [.ex false [.row 16 (.int .u32) a0, .c (.sc (.int .u32 a1)), .c (.sc (.int .u32 a2)), .row 4 (.int .u64) a3] 28, .ex false [.row 26 (.int .u32) (List.replicate 26 (0 : Int))] 44, .ex false [.row 26 (.int .u32) x9] 44], 0⟩
def regs_words.l0_Q (a0 : (List Int)) (a1 : Int) (a2 : Int) (a3 : (List Int)) (t : (List Int)) : Exit → St → Prop := fun e s => e = (.exit 0) ∧ s = ⟨[.any, .any, .v (.one (.ptr 1 ⟨0, 0, 0, 0⟩)), .v (.one (.ptr 2 ⟨0, 0, 0, 0⟩)), .any, .any, .any, .any, .any, .any, .any, .any, .any, .any, .any, .any, .any, .any, .any, .any, .any, .any, .any, .any, .any, .any, .any, .any, .any, .any, .any, .any, .any, .any, .any, .any, .any, .any], [.ex false [.row 16 (.int .u32) a0, .c (.sc (.int .u32 a1)), .c (.sc (.int .u32 a2)), .row 4 (.int .u64) a3] 28, .ex false [.row 26 (.int .u32) (List.replicate 26 (0 : Int))] 44, .ex false [.row 26 (.int .u32) t] 44], 0⟩
theorem regs_words.l0_ok (a0 : (List Int)) (a1 : Int) (a2 : Int) (a3 : (List Int)) : ∀ (n : Nat) (x9 : List Int) (x10 : Int) (r : (List Int)), regs_words.l0 a0 a1 a2 a3 n x9 x10 = some r → TripN cfg (cpath (Try.f10.body.getD .skip) [1, 1, 1, 1, 0, 1, 0, 0]) n (regs_words.l0_S a0 a1 a2 a3 x9 x10) (regs_words.l0_Q a0 a1 a2 a3 r)
  | 0, _, _, r, h => by cases h
  | n + 1, x9, x10, r, h => by
    rw [regs_words.l0] at h
    refine TripN.of_run cfg_ok (k := (.br (.adj [] (.adj [] (.adj [] (.adj [] (.adj [.keep [2, 3, 17, 18], .drop 3] .nil))))) (.adj [.keep [2, 3], .drop 3] .nil))) (to_goal (q := (True) ∧ (((decide (x10 < (4 : Int))) = true → (True ∧ (True ∧ (0 ≤ x10 ∧ x10 < ((4 : Nat) : Int)) ∧ (True ∧ (True) ∧ (True) ∧ (True) ∧ (True) ∧ (True) ∧ (True) ∧ (0 ≤ (32 : Int)) ∧ (True) ∧ (0 ≤ (IntKind.wrap .i64 ((18 : Int) + (IntKind.wrap .i64 ((2 : Int) * x10)))) ∧ (IntKind.wrap .i64 ((18 : Int) + (IntKind.wrap .i64 ((2 : Int) * x10)))) < ((26 : Nat) : Int)) ∧ ((Int.toNat (IntKind.wrap .i64 ((18 : Int) + (IntKind.wrap .i64 ((2 : Int) * x10))))) < 26) ∧ (0 ≤ (IntKind.wrap .i64 ((IntKind.wrap .i64 ((18 : Int) + (IntKind.wrap .i64 ((2 : Int) * x10)))) + (1 : Int))) ∧ (IntKind.wrap .i64 ((IntKind.wrap .i64 ((18 : Int) + (IntKind.wrap .i64 ((2 : Int) * x10)))) + (1 : Int))) < ((26 : Nat) : Int)) ∧ ((Int.toNat (IntKind.wrap .i64 ((IntKind.wrap .i64 ((18 : Int) + (IntKind.wrap .i64 ((2 : Int) * x10)))) + (1 : Int)))) < 26) ∧ (True ∧ (True) ∧ (((True) ∧ (True) ∧ True) ∧ TripN cfg (cpath (Try.f10.body.getD .skip) [1, 1, 1, 1, 0, 1, 0, 0]) n (regs_words.l0_S a0 a1 a2 a3 (List.set (List.set x9 (Int.toNat (IntKind.wrap .i64 ((18 : Int) + (IntKind.wrap .i64 ((2 : Int) * x10))))) (IntKind.wrap .u32 ((List.getD a3 (Int.toNat x10) (0 : Int))))) (Int.toNat (IntKind.wrap .i64 ((IntKind.wrap .i64 ((18 : Int) + (IntKind.wrap .i64 ((2 : Int) * x10)))) + (1 : Int)))) (IntKind.wrap .u32 ((shr .u64 (List.getD a3 (Int.toNat x10) (0 : Int)) (32 : Int))))) (IntKind.wrap .i64 (x10 + (1 : Int)))) (regs_words.l0_Q a0 a1 a2 a3 r))))))) ∧ ((decide (x10 < (4 : Int))) = false → (((True) ∧ (True) ∧ True) ∧ regs_words.l0_Q a0 a1 a2 a3 r (.exit 0) ⟨[.any, .any, .v (.one (.ptr 1 ⟨0, 0, 0, 0⟩)), .v (.one (.ptr 2 ⟨0, 0, 0, 0⟩)), .any, .any, .any, .any, .any, .any, .any, .any, .any, .any, .any, .any, .any, .any, .any, .any, .any, .any, .any, .any, .any, .any, .any, .any, .any, .any, .any, .any, .any, .any, .any, .any, .any, .any], [.ex false [.row 16 (.int .u32) a0, .c (.sc (.int .u32 a1)), .c (.sc (.int .u32 a2)), .row 4 (.int .u64) a3] 28, .ex false [.row 26 (.int .u32) (List.replicate 26 (0 : Int))] 44, .ex false [.row 26 (.int .u32) x9] 44], 0⟩)))) (by kernel_rfl) ?_)
    refine ⟨trivial, ?_⟩
    refine ⟨fun b19 => ?_, fun b19 => ?_⟩
    · rw [if_pos (of_decide_eq_true b19)] at h
      refine ⟨trivial, ?_⟩
      refine ⟨trivial, ?_⟩
      obtain ⟨g24, h⟩ := of_guard h
      refine ⟨g24, ?_⟩
      refine ⟨trivial, ?_⟩
      refine ⟨trivial, ?_⟩
      refine ⟨trivial, ?_⟩
      refine ⟨trivial, ?_⟩
      refine ⟨trivial, ?_⟩
      refine ⟨trivial, ?_⟩
      refine ⟨trivial, ?_⟩
      refine ⟨(by decide), ?_⟩
      refine ⟨trivial, ?_⟩
      obtain ⟨g23, h⟩ := of_guard h
      refine ⟨g23, ?_⟩
      obtain ⟨g22, h⟩ := of_guard h
      refine ⟨g22, ?_⟩
      obtain ⟨g21, h⟩ := of_guard h
      refine ⟨g21, ?_⟩
      obtain ⟨g20, h⟩ := of_guard h
      refine ⟨g20, ?_⟩
      refine ⟨trivial, ?_⟩
      refine ⟨trivial, ?_⟩
      exact ⟨⟨trivial, trivial, trivial⟩, regs_words.l0_ok a0 a1 a2 a3 n (List.set (List.set x9 (Int.toNat (IntKind.wrap .i64 ((18 : Int) + (IntKind.wrap .i64 ((2 : Int) * x10))))) (IntKind.wrap .u32 ((List.getD a3 (Int.toNat x10) (0 : Int))))) (Int.toNat (IntKind.wrap .i64 ((IntKind.wrap .i64 ((18 : Int) + (IntKind.wrap .i64 ((2 : Int) * x10)))) + (1 : Int)))) (IntKind.wrap .u32 ((shr .u64 (List.getD a3 (Int.toNat x10) (0 : Int)) (32 : Int))))) (IntKind.wrap .i64 (x10 + (1 : Int))) r h⟩
    · rw [if_neg (of_decide_eq_false b19)] at h
      obtain rfl := Option.some.inj h
      exact ⟨⟨trivial, trivial, trivial⟩, rfl, rfl⟩
def regs_words.f (a0 : (List Int)) (a1 : Int) (a2 : Int) (a3 : (List Int)) : Option (List Int) :=
  (regs_words.l0 a0 a1 a2 a3 FUEL (List.set (List.set (List.take 0 (List.replicate 26 (0 : Int)) ++ ((List.take (Nat.min (List.length (List.take 16 a0)) 26) (List.take 16 a0)) ++ (List.drop (0 + Nat.min (List.length (List.take 16 a0)) 26) (List.replicate 26 (0 : Int))))) 16 a1) 17 a2) (0 : Int)).bind fun t18 =>
  some t18
def regs_words.R (r : (List Int)) : Tm := .v (.agg [.row 26 (.int .u32) r])
theorem regs_words.fun_ {a0 : (List Int)} {a1 : Int} {a2 : Int} {a3 : (List Int)} {r : (List Int)} (h : regs_words.f a0 a1 a2 a3 = some r) : Fun cfg 10 [.agg [.row 16 (.int .u32) a0, .c (.sc (.int .u32 a1)), .c (.sc (.int .u32 a2)), .row 4 (.int .u64) a3]] [] (regs_words.R r) [] := by
  unfold regs_words.f at h
  refine fun_of_run cfg_ok (f := 10) (fn := Try.f10) Try.func10 rfl (by kernel_rfl) (rs := [.cell 2 44]) rfl (nt := 38) rfl (l := fin) (k := (.reg (Unit) (fun t1 => [(0, ⟨none, .no⟩), (1, ⟨none, .no⟩), (2, ⟨none, .no⟩), (3, ⟨none, (.b false)⟩)]) (fun t1 => (.adj [] (.adj [] (.adj [.keep [2, 3, 17, 18]] (.sub ((List Int)) (fun _ => (.exit 0)) (fun t18 => ⟨[.any, .any, .v (.one (.ptr 1 ⟨0, 0, 0, 0⟩)), .v (.one (.ptr 2 ⟨0, 0, 0, 0⟩)), .any, .any, .any, .any, .any, .any, .any, .any, .any, .any, .any, .any, .any, .any, .any, .any, .any, .any, .any, .any, .any, .any, .any, .any, .any, .any, .any, .any, .any, .any, .any, .any, .any, .any], [.ex false [.row 16 (.int .u32) a0, .c (.sc (.int .u32 a1)), .c (.sc (.int .u32 a2)), .row 4 (.int .u64) a3] 28, .ex false [.row 26 (.int .u32) (List.replicate 26 (0 : Int))] 44, .ex false [.row 26 (.int .u32) t18] 44], 0⟩) (fun t18 => (.adj [] (.adj [] (.adj [.drop 0] .nil))))))))))) (to_goal (q := (∃ t1 : Unit, ((True) ∧ (True) ∧ (True) ∧ (false = true → false = true)) ∧ (True) ∧ ((True) ∧ (True) ∧ (True) ∧ (false = true → false = true)) ∧ (0 + 16 ≤ 16 ∧ 0 < 26 ∧ 0 + 26 ≤ 26) ∧ (True ∧ (True) ∧ (True) ∧ (0 ≤ (16 : Int) ∧ (16 : Int) < ((26 : Nat) : Int)) ∧ (16 < 26) ∧ (0 ≤ (17 : Int) ∧ (17 : Int) < ((26 : Nat) : Int)) ∧ (17 < 26) ∧ (True ∧ (True) ∧ (((True) ∧ True) ∧ (∃ t18 : (List Int), Trip cfg (.loop (cpath (Try.f10.body.getD .skip) [1, 1, 1, 1, 0, 1, 0, 0])) ⟨[.any, .any, .v (.one (.ptr 1 ⟨0, 0, 0, 0⟩)), .v (.one (.ptr 2 ⟨0, 0, 0, 0⟩)), .any, .any, .any, .any, .any, .any, .any, .any, .any, .any, .any, .any, .any, .v (.agg [.row 4 (.int .u64) a3]), .v (.one (.sc (.int .i64 (0 : Int)))), .any, .any, .any, .any, .any, .any, .any, .any, .any, .any, .any, .any, .any, .any, .any, .any, .any, .any, .any], [.ex false [.row 16 (.int .u32) a0, .c (.sc (.int .u32 a1)), .c (.sc (.int .u32 a2)), .row 4 (.int .u64) a3] 28, .ex false [.row 26 (.int .u32) (List.replicate 26 (0 : Int))] 44, .ex false [.row 26 (.int .u32) (List.set (List.set (List.take 0 (List.replicate 26 (0 : Int)) ++ ((List.take (Nat.min (List.length (List.take 16 a0)) 26) (List.take 16 a0)) ++ (List.drop (0 + Nat.min (List.length (List.take 16 a0)) 26) (List.replicate 26 (0 : Int))))) 16 a1) 17 a2)] 44], 0⟩ (fun e s => e = (.exit 0) ∧ s = ⟨[.any, .any, .v (.one (.ptr 1 ⟨0, 0, 0, 0⟩)), .v (.one (.ptr 2 ⟨0, 0, 0, 0⟩)), .any, .any, .any, .any, .any, .any, .any, .any, .any, .any, .any, .any, .any, .any, .any, .any, .any, .any, .any, .any, .any, .any, .any, .any, .any, .any, .any, .any, .any, .any, .any, .any, .any, .any], [.ex false [.row 16 (.int .u32) a0, .c (.sc (.int .u32 a1)), .c (.sc (.int .u32 a2)), .row 4 (.int .u64) a3] 28, .ex false [.row 26 (.int .u32) (List.replicate 26 (0 : Int))] 44, .ex false [.row 26 (.int .u32) t18] 44], 0⟩) ∧ (True ∧ (True) ∧ (True) ∧ (True ∧ (((True) ∧ True) ∧ ((True) ∧ True) ∧ (.v (.agg [.row 26 (.int .u32) t18]) : Tm) = regs_words.R r ∧ ([] : List Box) = []))))))))) (by kernel_rfl) ?_)
  refine ⟨(), ⟨trivial, trivial, trivial, (by decide)⟩, trivial, ⟨trivial, trivial, trivial, (by decide)⟩, ⟨(by decide), (by decide), (by decide)⟩, ?_⟩
  refine ⟨trivial, ?_⟩
  refine ⟨trivial, ?_⟩
  refine ⟨trivial, ?_⟩
  refine ⟨(by decide), ?_⟩
  refine ⟨(by decide), ?_⟩
  refine ⟨(by decide), ?_⟩
  refine ⟨(by decide), ?_⟩
  refine ⟨trivial, ?_⟩
  refine ⟨trivial, ?_⟩
  obtain ⟨t18, ht18, h⟩ := of_bind h
  refine ⟨⟨trivial, trivial⟩, t18, Trip.loop FUEL (regs_words.l0_ok a0 a1 a2 a3 FUEL (List.set (List.set (List.take 0 (List.replicate 26 (0 : Int)) ++ ((List.take (Nat.min (List.length (List.take 16 a0)) 26) (List.take 16 a0)) ++ (List.drop (0 + Nat.min (List.length (List.take 16 a0)) 26) (List.replicate 26 (0 : Int))))) 16 a1) 17 a2) (0 : Int) t18 ht18), ?_⟩
  refine ⟨trivial, ?_⟩
  refine ⟨trivial, ?_⟩
  refine ⟨trivial, ?_⟩
  refine ⟨trivial, ?_⟩
  obtain rfl := Option.some.inj h
  exact ⟨⟨trivial, trivial⟩, ⟨trivial, trivial⟩, rfl, rfl⟩
/-! halter/word.sized -/
def word_sized.f (a0 : Int) : Option Bool :=
  if a0 = (1 : Int) then
    some true
  else
    if a0 = (2 : Int) then
      some true
    else
      some (a0 == (4 : Int))
def word_sized.R (r : Bool) : Tm := .v (.one (.sc (.bool r)))
theorem word_sized.fun_ {a0 : Int} {r : Bool} (h : word_sized.f a0 = some r) : Fun cfg 15 [.one (.sc (.int .i64 a0))] [] (word_sized.R r) [] := by
  unfold word_sized.f at h
  refine fun_of_run cfg_ok (f := 15) (fn := Try.f15) Try.func15 rfl (by kernel_rfl) (rs := [.tmp 2]) rfl (nt := 13) rfl (l := fin) (k := (.br (.one true (.one true (.one true (.one true (.one true (.adj [] (.adj [] .nil))))))) (.one false (.one false (.br (.one true (.one true (.adj [] (.adj [] .nil)))) (.one false (.one false (.adj [] (.adj [] .nil))))))))) (to_goal (q := (True) ∧ (((a0 == (1 : Int)) = false → ((a0 == (1 : Int)) = false ∧ (True) ∧ ((a0 == (1 : Int)) = false ∧ (((a0 == (2 : Int)) = false → ((a0 == (2 : Int)) = false ∧ (True) ∧ ((a0 == (2 : Int)) = false ∧ (True ∧ ((True) ∧ (True) ∧ (.v (.one (.sc (.bool (a0 == (4 : Int))))) : Tm) = word_sized.R r ∧ ([] : List Box) = []))))) ∧ ((a0 == (2 : Int)) = true → ((a0 == (2 : Int)) = true ∧ ((a0 == (2 : Int)) = true ∧ (True ∧ ((True) ∧ (True) ∧ (.v (.one (.sc (.bool true))) : Tm) = word_sized.R r ∧ ([] : List Box) = []))))))))) ∧ ((a0 == (1 : Int)) = true → ((a0 == (1 : Int)) = true ∧ ((a0 == (1 : Int)) = true ∧ (true = true ∧ (true = true ∧ (true = true ∧ (True ∧ ((True) ∧ (True) ∧ (.v (.one (.sc (.bool true))) : Tm) = word_sized.R r ∧ ([] : List Box) = [])))))))))) (by kernel_rfl) ?_)
  refine ⟨trivial, ?_⟩
  refine ⟨fun b1 => ?_, fun b1 => ?_⟩
  · rw [if_neg (beq_f b1)] at h
    refine ⟨b1, ?_⟩
    refine ⟨trivial, ?_⟩
    refine ⟨b1, ?_⟩
    refine ⟨fun b2 => ?_, fun b2 => ?_⟩
    · rw [if_neg (beq_f b2)] at h
      refine ⟨b2, ?_⟩
      refine ⟨trivial, ?_⟩
      refine ⟨b2, ?_⟩
      refine ⟨trivial, ?_⟩
      obtain rfl := Option.some.inj h
      exact ⟨trivial, trivial, rfl, rfl⟩
    · rw [if_pos (beq_t b2)] at h
      refine ⟨b2, ?_⟩
      refine ⟨b2, ?_⟩
      refine ⟨trivial, ?_⟩
      obtain rfl := Option.some.inj h
      exact ⟨trivial, trivial, rfl, rfl⟩
  · rw [if_pos (beq_t b1)] at h
    refine ⟨b1, ?_⟩
    refine ⟨b1, ?_⟩
    refine ⟨rfl, ?_⟩
    refine ⟨rfl, ?_⟩
    refine ⟨rfl, ?_⟩
    refine ⟨trivial, ?_⟩
    obtain rfl := Option.some.inj h
    exact ⟨trivial, trivial, rfl, rfl⟩
/-! halter/word.Store -/
def word_Store.l0 (a1 : Int) : Nat → (List Int) → Int → Int → Option (List Int)
  | 0, _, _, _ => none
  | n + 1, x7, x8, x9 =>
    if x9 < a1 then
      if (0 = 0 ∧ 1 = 1) ∧ 0 = 0 ∧ (List.length x7) = (List.length x7) ∧ (((List.length x7) + 1) * 1 ≤ 140737488355328 ∧ (List.length x7) + 1 ≤ 9223372036854775807) then
        word_Store.l0 a1 n (x7 ++ [(IntKind.wrap .u8 (x8))]) (shr .u32 x8 (8 : Int)) (IntKind.wrap .i64 (x9 + (1 : Int)))
      else none
    else
      some x7
def word_Store.l0_S (a1 : Int) (x7 : List Int) (x8 : Int) (x9 : Int) : St := ⟨[.v (.one (.sc (.int .u32 x8))), .any, .any, .any, .any, .any, .v (.one (.os 0 0 0 1 (List.length x7) none)), .any, .any, .any, .any, .any, .any, .v (.one (.sc (.int .i64 a1))), .v (.one (.sc (.int .i64 x9))), .any, .any, .any, .any, .any, .any, .any, .any, .any, .any], [.gro false (.int .u8) x7 5], 0⟩
def word_Store.l0_Q (a1 : Int) (t : (List Int)) : Exit → St → Prop := fun e s => e = (.exit 0) ∧ s = ⟨[.any, .any, .any, .any, .any, .any, .v (.one (.os 0 0 0 1 (List.length t) none)), .any, .any, .any, .any, .any, .any, .any, .any, .any, .any, .any, .any, .any, .any, .any, .any, .any, .any], [.gro false (.int .u8) t 5], 0⟩
theorem word_Store.l0_ok (a1 : Int) : ∀ (n : Nat) (x7 : List Int) (x8 : Int) (x9 : Int) (r : (List Int)), word_Store.l0 a1 n x7 x8 x9 = some r → TripN cfg (cpath (Try.f13.body.getD .skip) [1, 1, 1, 0, 1, 0, 0]) n (word_Store.l0_S a1 x7 x8 x9) (word_Store.l0_Q a1 r)
  | 0, _, _, _, r, h => by cases h
  | n + 1, x7, x8, x9, r, h => by
    rw [word_Store.l0] at h
    refine TripN.of_run cfg_ok (k := (.br (.d (.b true) (.adj [] (.adj [] (.adj [.keep [0, 6, 13, 14], .drop 1] .nil)))) (.adj [.keep [6], .drop 1] .nil))) (to_goal (q := (True) ∧ (((decide (x9 < a1)) = true → (True) ∧ ((0 = 0 ∧ 1 = 1) ∧ 0 = 0 ∧ (List.length x7) = (List.length x7) ∧ (((List.length x7) + 1) * 1 ≤ 140737488355328 ∧ (List.length x7) + 1 ≤ 9223372036854775807)) ∧ (True ∧ (0 ≤ (8 : Int)) ∧ (True ∧ (True) ∧ (((True) ∧ (True) ∧ True) ∧ TripN cfg (cpath (Try.f13.body.getD .skip) [1, 1, 1, 0, 1, 0, 0]) n (word_Store.l0_S a1 (x7 ++ [(IntKind.wrap .u8 (x8))]) (shr .u32 x8 (8 : Int)) (IntKind.wrap .i64 (x9 + (1 : Int)))) (word_Store.l0_Q a1 r))))) ∧ ((decide (x9 < a1)) = false → (((True) ∧ (True) ∧ True) ∧ word_Store.l0_Q a1 r (.exit 0) ⟨[.any, .any, .any, .any, .any, .any, .v (.one (.os 0 0 0 1 (List.length x7) none)), .any, .any, .any, .any, .any, .any, .any, .any, .any, .any, .any, .any, .any, .any, .any, .any, .any, .any], [.gro false (.int .u8) x7 5], 0⟩)))) (by kernel_rfl) ?_)
    refine ⟨trivial, ?_⟩
    refine ⟨fun b14 => ?_, fun b14 => ?_⟩
    · rw [if_pos (of_decide_eq_true b14)] at h
      refine ⟨trivial, ?_⟩
      obtain ⟨g15, h⟩ := of_guard h
      refine ⟨g15, ?_⟩
      refine ⟨trivial, ?_⟩
      refine ⟨(by decide), ?_⟩
      refine ⟨trivial, ?_⟩
      refine ⟨trivial, ?_⟩
      exact ⟨⟨trivial, trivial, trivial⟩, word_Store.l0_ok a1 n (x7 ++ [(IntKind.wrap .u8 (x8))]) (shr .u32 x8 (8 : Int)) (IntKind.wrap .i64 (x9 + (1 : Int))) r h⟩
    · rw [if_neg (of_decide_eq_false b14)] at h
      obtain rfl := Option.some.inj h
      exact ⟨⟨trivial, trivial, trivial⟩, rfl, rfl⟩
def word_Store.f (a0 : Int) (a1 : Int) : Option ((List Int) × (Option Int)) :=
  (word_sized.f a1).bind fun t1 =>
  if ¬ (t1 = true) then
    some (([] : List Int), (some (22 : Int)))
  else
    if (0 : Int) = 0 ∧ 0 ≤ a1 ∧ (1 : Int) * a1 ≤ 281474976710656 ∧ a1 ≤ 9223372036854775807 then
      (word_Store.l0 a1 FUEL ([] : List Int) a0 (0 : Int)).bind fun t13 =>
      some (t13, none)
    else none
def word_Store.R (r : (List Int) × (Option Int)) : Tm := .tup [.one (.fs (.int .u8) r.1 false), .one (.err r.2)]
theorem word_Store.fun_ {a0 : Int} {a1 : Int} {r : (List Int) × (Option Int)} (h : word_Store.f a0 a1 = some r) : Fun cfg 13 [.one (.sc (.int .u32 a0)), .one (.sc (.int .i64 a1))] [] (word_Store.R r) [] := by
  unfold word_Store.f at h
  refine fun_of_run cfg_ok (f := 13) (fn := Try.f13) Try.func13 rfl (by kernel_rfl) (rs := [.tmp 4, .tmp 5]) rfl (nt := 25) rfl (l := fin) (k := (.call true [] (Bool) (fun t1 => word_sized.R t1) (fun t1 => (.br (.adj [] (.adj [] (.adj [.co 0 true [(.int .u8)]] .nil))) (.d (.b true) (.adj [] (.adj [.keep [0, 6, 13, 14]] (.sub ((List Int)) (fun _ => (.exit 0)) (fun t13 => ⟨[.any, .any, .any, .any, .any, .any, .v (.one (.os 0 0 0 1 (List.length t13) none)), .any, .any, .any, .any, .any, .any, .any, .any, .any, .any, .any, .any, .any, .any, .any, .any, .any, .any], [.gro false (.int .u8) t13 5], 0⟩) (fun t13 => (.adj [] (.adj [] (.adj [.co 0 true [], .drop 0] .nil)))))))))))) (to_goal (q := (∃ t1 : Bool, (Fun cfg 15 [.one (.sc (.int .i64 a1))] [] (word_sized.R t1) [] ∧ True) ∧ (((!t1) = true → (True ∧ (True ∧ ((True) ∧ ((True) ∧ True) ∧ (.tup [.one (.fs (.int .u8) ([] : List Int) false), .one (.err (some (22 : Int)))] : Tm) = word_Store.R r ∧ ([] : List Box) = [])))) ∧ ((!t1) = false → ((0 : Int) = 0 ∧ 0 ≤ a1 ∧ (1 : Int) * a1 ≤ 281474976710656 ∧ a1 ≤ 9223372036854775807) ∧ (True ∧ (((True) ∧ True) ∧ (∃ t13 : (List Int), Trip cfg (.loop (cpath (Try.f13.body.getD .skip) [1, 1, 1, 0, 1, 0, 0])) ⟨[.v (.one (.sc (.int .u32 a0))), .any, .any, .any, .any, .any, .v (.one (.os 0 0 0 1 0 none)), .any, .any, .any, .any, .any, .any, .v (.one (.sc (.int .i64 a1))), .v (.one (.sc (.int .i64 (0 : Int)))), .any, .any, .any, .any, .any, .any, .any, .any, .any, .any], [.gro false (.int .u8) ([] : List Int) 5], 0⟩ (fun e s => e = (.exit 0) ∧ s = ⟨[.any, .any, .any, .any, .any, .any, .v (.one (.os 0 0 0 1 (List.length t13) none)), .any, .any, .any, .any, .any, .any, .any, .any, .any, .any, .any, .any, .any, .any, .any, .any, .any, .any], [.gro false (.int .u8) t13 5], 0⟩) ∧ (True ∧ (True ∧ ((True) ∧ ((((0 = 0 ∧ (List.length t13) = (List.length t13))) ∧ True) ∧ (True) ∧ True) ∧ (.tup [.one (.fs (.int .u8) t13 false), .one (.err none)] : Tm) = word_Store.R r ∧ ([] : List Box) = [])))))))))) (by kernel_rfl) ?_)
  obtain ⟨t1, ht1, h⟩ := of_bind h
  refine ⟨t1, ⟨word_sized.fun_ ht1, trivial⟩, ?_⟩
  refine ⟨fun b2 => ?_, fun b2 => ?_⟩
  · rw [if_pos (ff (not_t b2))] at h
    refine ⟨trivial, ?_⟩
    refine ⟨trivial, ?_⟩
    obtain rfl := Option.some.inj h
    exact ⟨trivial, ⟨trivial, trivial⟩, rfl, rfl⟩
  · rw [if_neg (not_not_intro (not_f b2))] at h
    obtain ⟨g18, h⟩ := of_guard h
    refine ⟨g18, ?_⟩
    refine ⟨trivial, ?_⟩
    obtain ⟨t13, ht13, h⟩ := of_bind h
    refine ⟨⟨trivial, trivial⟩, t13, Trip.loop FUEL (word_Store.l0_ok a1 FUEL ([] : List Int) a0 (0 : Int) t13 ht13), ?_⟩
    refine ⟨trivial, ?_⟩
    refine ⟨trivial, ?_⟩
    obtain rfl := Option.some.inj h
    exact ⟨trivial, ⟨⟨⟨rfl, rfl⟩, trivial⟩, trivial, trivial⟩, rfl, rfl⟩
/-! halter/regs.Encode -/
def regs_Encode.l0 (t3 : (List Int)) (a0 : (List Int)) (a1 : Int) (a2 : Int) (a3 : (List Int)) : Nat → (List Int) → Int → Option (((List Int)) ⊕ ((List Int) × (Option Int)))
  | 0, _, _ => none
  | n + 1, x10, x11 =>
    if x11 < (26 : Int) then
      if 0 ≤ x11 ∧ x11 < ((26 : Nat) : Int) then
        (word_Store.f (List.getD t3 (Int.toNat x11) (0 : Int)) (4 : Int)).bind fun t22 =>
        if ¬ (t22.2 = none) then
          some (.inr (x10, t22.2))
        else
          if True ∧ 0 = 0 ∧ (List.length x10) = (List.length x10) ∧ (((List.length x10) + (List.length t22.1)) * 1 ≤ 140737488355328 ∧ (List.length x10) + (List.length t22.1) ≤ 9223372036854775807) then
            regs_Encode.l0 t3 a0 a1 a2 a3 n (x10 ++ t22.1) (IntKind.wrap .i64 (x11 + (1 : Int)))
          else none
      else none
    else
      some (.inl x10)
def regs_Encode.l0_S (t3 : (List Int)) (a0 : (List Int)) (a1 : Int) (a2 : Int) (a3 : (List Int)) (x10 : List Int) (x11 : Int) : St := ⟨[.any, .any, .any, .any, .any, .v (.one (.os 1 0 0 1 (List.length x10) none)), .any, .any, .any, .any, .any, .any, .any, .any, .any, .any, .any, .v (.agg [.row 26 (.int .u32) t3]), .v (.one (.sc (.int .i64 x11))), .any, .any, .any, .any, .any, .any, .any, .any, .any, .any, .any, .any, .any, .any, .any], [.ex false [.row 16 (.int .u32) a0, .c (.sc (.int .u32 a1)), .c (.sc (.int .u32 a2)), .row 4 (.int .u64) a3] 28, .gro false (.int .u8) x10 5], 0⟩
def regs_Encode.l0_Q (t3 : (List Int)) (a0 : (List Int)) (a1 : Int) (a2 : Int) (a3 : (List Int)) : ((List Int)) ⊕ ((List Int) × (Option Int)) → Exit → St → Prop
  | .inl t => fun e s => e = (.exit 0) ∧ s = ⟨[.any, .any, .any, .any, .any, .v (.one (.os 1 0 0 1 (List.length t) none)), .any, .any, .any, .any, .any, .any, .any, .any, .any, .any, .any, .any, .any, .any, .any, .any, .any, .any, .any, .any, .any, .any, .any, .any, .any, .any, .any, .any], [.ex false [.row 16 (.int .u32) a0, .c (.sc (.int .u32 a1)), .c (.sc (.int .u32 a2)), .row 4 (.int .u64) a3] 28, .gro false (.int .u8) t 5], 0⟩
  | .inr t => fun e s => e = .ret ∧ s = ⟨[.any, .any, .v (.one (.sc (.slice none 0 0))), .v (.one (.err t.2)), .any, .any, .any, .any, .any, .any, .any, .any, .any, .any, .any, .any, .any, .any, .any, .any, .any, .any, .any, .any, .any, .any, .any, .any, .any, .any, .any, .any, .any, .any], [.ex false [.row 16 (.int .u32) a0, .c (.sc (.int .u32 a1)), .c (.sc (.int .u32 a2)), .row 4 (.int .u64) a3] 28, .gro false (.int .u8) t.1 5], 0⟩
theorem regs_Encode.l0_ok (t3 : (List Int)) (a0 : (List Int)) (a1 : Int) (a2 : Int) (a3 : (List Int)) : ∀ (n : Nat) (x10 : List Int) (x11 : Int) (r : ((List Int)) ⊕ ((List Int) × (Option Int))), regs_Encode.l0 t3 a0 a1 a2 a3 n x10 x11 = some r → TripN cfg (cpath (Try.f8.body.getD .skip) [1, 1, 1, 0, 1, 0, 0]) n (regs_Encode.l0_S t3 a0 a1 a2 a3 x10 x11) (regs_Encode.l0_Q t3 a0 a1 a2 a3 r)
  | 0, _, _, r, h => by cases h
  | n + 1, x10, x11, r, h => by
    rw [regs_Encode.l0] at h
    refine TripN.of_run cfg_ok (k := (.br (.call true [] ((List Int) × (Option Int)) (fun t22 => word_Store.R t22) (fun t22 => (.br (.adj [] (.adj [.keep [2, 3], .drop 2] .nil)) (.d (.b false) (.adj [] (.adj [.keep [5, 17, 18], .drop 2] .nil)))))) (.adj [.keep [5], .drop 2] .nil))) (to_goal (q := (True) ∧ (((decide (x11 < (26 : Int))) = true → (0 ≤ x11 ∧ x11 < ((26 : Nat) : Int)) ∧ (∃ t22 : (List Int) × (Option Int), (Fun cfg 13 [.one (.sc (.int .u32 (List.getD t3 (Int.toNat x11) (0 : Int)))), .one (.sc (.int .i64 (4 : Int)))] [] (word_Store.R t22) [] ∧ True) ∧ (True) ∧ (((!(Option.isNone t22.2)) = true → (True ∧ (((True) ∧ (True) ∧ True) ∧ regs_Encode.l0_Q t3 a0 a1 a2 a3 r .ret ⟨[.any, .any, .v (.one (.sc (.slice none 0 0))), .v (.one (.err t22.2)), .any, .any, .any, .any, .any, .any, .any, .any, .any, .any, .any, .any, .any, .any, .any, .any, .any, .any, .any, .any, .any, .any, .any, .any, .any, .any, .any, .any, .any, .any], [.ex false [.row 16 (.int .u32) a0, .c (.sc (.int .u32 a1)), .c (.sc (.int .u32 a2)), .row 4 (.int .u64) a3] 28, .gro false (.int .u8) x10 5], 0⟩))) ∧ ((!(Option.isNone t22.2)) = false → (True ∧ 0 = 0 ∧ (List.length x10) = (List.length x10) ∧ (((List.length x10) + (List.length t22.1)) * 1 ≤ 140737488355328 ∧ (List.length x10) + (List.length t22.1) ≤ 9223372036854775807)) ∧ (True ∧ (True) ∧ (((True) ∧ (True) ∧ True) ∧ TripN cfg (cpath (Try.f8.body.getD .skip) [1, 1, 1, 0, 1, 0, 0]) n (regs_Encode.l0_S t3 a0 a1 a2 a3 (x10 ++ t22.1) (IntKind.wrap .i64 (x11 + (1 : Int)))) (regs_Encode.l0_Q t3 a0 a1 a2 a3 r))))))) ∧ ((decide (x11 < (26 : Int))) = false → (((True) ∧ (True) ∧ True) ∧ regs_Encode.l0_Q t3 a0 a1 a2 a3 r (.exit 0) ⟨[.any, .any, .any, .any, .any, .v (.one (.os 1 0 0 1 (List.length x10) none)), .any, .any, .any, .any, .any, .any, .any, .any, .any, .any, .any, .any, .any, .any, .any, .any, .any, .any, .any, .any, .any, .any, .any, .any, .any, .any, .any, .any], [.ex false [.row 16 (.int .u32) a0, .c (.sc (.int .u32 a1)), .c (.sc (.int .u32 a2)), .row 4 (.int .u64) a3] 28, .gro false (.int .u8) x10 5], 0⟩)))) (by kernel_rfl) ?_)
    refine ⟨trivial, ?_⟩
    refine ⟨fun b21 => ?_, fun b21 => ?_⟩
    · rw [if_pos (of_decide_eq_true b21)] at h
      obtain ⟨g25, h⟩ := of_guard h
      refine ⟨g25, ?_⟩
      obtain ⟨t22, ht22, h⟩ := of_bind h
      refine ⟨t22, ⟨word_Store.fun_ ht22, trivial⟩, ?_⟩
      refine ⟨trivial, ?_⟩
      refine ⟨fun b23 => ?_, fun b23 => ?_⟩
      · rw [if_pos (none_f (not_t b23))] at h
        refine ⟨trivial, ?_⟩
        obtain rfl := Option.some.inj h
        exact ⟨⟨trivial, trivial, trivial⟩, rfl, rfl⟩
      · rw [if_neg (not_not_intro (none_t (not_f b23)))] at h
        obtain ⟨g24, h⟩ := of_guard h
        refine ⟨g24, ?_⟩
        refine ⟨trivial, ?_⟩
        refine ⟨trivial, ?_⟩
        exact ⟨⟨trivial, trivial, trivial⟩, regs_Encode.l0_ok t3 a0 a1 a2 a3 n (x10 ++ t22.1) (IntKind.wrap .i64 (x11 + (1 : Int))) r h⟩
    · rw [if_neg (of_decide_eq_false b21)] at h
      obtain rfl := Option.some.inj h
      exact ⟨⟨trivial, trivial, trivial⟩, rfl, rfl⟩
def regs_Encode.f (a0 : (List Int)) (a1 : Int) (a2 : Int) (a3 : (List Int)) : Option ((List Int) × (Option Int)) :=
  (regs_Check.f a0 a1 a2 a3).bind fun t1 =>
  if ¬ (t1 = none) then
    some (([] : List Int), t1)
  else
    (regs_words.f a0 a1 a2 a3).bind fun t3 =>
    (regs_Encode.l0 t3 a0 a1 a2 a3 FUEL ([] : List Int) (0 : Int)).bind fun t20 =>
    match t20 with
    | .inl t29 =>
      some (t29, none)
    | .inr t31 =>
      some (([] : List Int), t31.2)
def regs_Encode.R (r : (List Int) × (Option Int)) : Tm := .tup [.one (.fs (.int .u8) r.1 false), .one (.err r.2)]
theorem regs_Encode.fun_ {a0 : (List Int)} {a1 : Int} {a2 : Int} {a3 : (List Int)} {r : (List Int) × (Option Int)} (h : regs_Encode.f a0 a1 a2 a3 = some r) : Fun cfg 8 [.agg [.row 16 (.int .u32) a0, .c (.sc (.int .u32 a1)), .c (.sc (.int .u32 a2)), .row 4 (.int .u64) a3]] [] (regs_Encode.R r) [] := by
  unfold regs_Encode.f at h
  refine fun_of_run cfg_ok (f := 8) (fn := Try.f8) Try.func8 rfl (by kernel_rfl) (rs := [.tmp 2, .tmp 3]) rfl (nt := 34) rfl (l := fin) (k := (.call true [] ((Option Int)) (fun t1 => regs_Check.R t1) (fun t1 => (.br (.adj [] (.adj [] (.adj [.co 0 true [(.int .u8)], .drop 0] .nil))) (.d (.b true) (.call true [] ((List Int)) (fun t3 => regs_words.R t3) (fun t3 => (.adj [.keep [5, 17, 18]] (.alt (.sub ((List Int)) (fun _ => (.exit 0)) (fun t29 => ⟨[.any, .any, .any, .any, .any, .v (.one (.os 1 0 0 1 (List.length t29) none)), .any, .any, .any, .any, .any, .any, .any, .any, .any, .any, .any, .any, .any, .any, .any, .any, .any, .any, .any, .any, .any, .any, .any, .any, .any, .any, .any, .any], [.ex false [.row 16 (.int .u32) a0, .c (.sc (.int .u32 a1)), .c (.sc (.int .u32 a2)), .row 4 (.int .u64) a3] 28, .gro false (.int .u8) t29 5], 0⟩) (fun t29 => (.adj [] (.adj [] (.adj [.co 0 true [], .drop 0] .nil))))) (.sub ((List Int) × (Option Int)) (fun _ => .ret) (fun t31 => ⟨[.any, .any, .v (.one (.sc (.slice none 0 0))), .v (.one (.err t31.2)), .any, .any, .any, .any, .any, .any, .any, .any, .any, .any, .any, .any, .any, .any, .any, .any, .any, .any, .any, .any, .any, .any, .any, .any, .any, .any, .any, .any, .any, .any], [.ex false [.row 16 (.int .u32) a0, .c (.sc (.int .u32 a1)), .c (.sc (.int .u32 a2)), .row 4 (.int .u64) a3] 28, .gro false (.int .u8) t31.1 5], 0⟩) (fun t31 => (.adj [.co 0 true [(.int .u8)], .drop 0] .nil)))))))))))) (to_goal (q := (True) ∧ (∃ t1 : (Option Int), (Fun cfg 12 [.agg [.row 16 (.int .u32) a0, .c (.sc (.int .u32 a1)), .c (.sc (.int .u32 a2)), .row 4 (.int .u64) a3]] [] (regs_Check.R t1) [] ∧ True) ∧ (True) ∧ (((!(Option.isNone t1)) = true → (True ∧ (True ∧ ((True) ∧ ((True) ∧ (True) ∧ True) ∧ (.tup [.one (.fs (.int .u8) ([] : List Int) false), .one (.err t1)] : Tm) = regs_Encode.R r ∧ ([] : List Box) = [])))) ∧ ((!(Option.isNone t1)) = false → ((0 : Int) = 0 ∧ 0 ≤ (104 : Int) ∧ (1 : Int) * (104 : Int) ≤ 281474976710656 ∧ (104 : Int) ≤ 9223372036854775807) ∧ (True) ∧ (∃ t3 : (List Int), (Fun cfg 10 [.agg [.row 16 (.int .u32) a0, .c (.sc (.int .u32 a1)), .c (.sc (.int .u32 a2)), .row 4 (.int .u64) a3]] [] (regs_words.R t3) [] ∧ True) ∧ (((True) ∧ True) ∧ ((∃ t29 : (List Int), Trip cfg (.loop (cpath (Try.f8.body.getD .skip) [1, 1, 1, 0, 1, 0, 0])) ⟨[.any, .any, .any, .any, .any, .v (.one (.os 1 0 0 1 0 none)), .any, .any, .any, .any, .any, .any, .any, .any, .any, .any, .any, .v (.agg [.row 26 (.int .u32) t3]), .v (.one (.sc (.int .i64 (0 : Int)))), .any, .any, .any, .any, .any, .any, .any, .any, .any, .any, .any, .any, .any, .any, .any], [.ex false [.row 16 (.int .u32) a0, .c (.sc (.int .u32 a1)), .c (.sc (.int .u32 a2)), .row 4 (.int .u64) a3] 28, .gro false (.int .u8) ([] : List Int) 5], 0⟩ (fun e s => e = (.exit 0) ∧ s = ⟨[.any, .any, .any, .any, .any, .v (.one (.os 1 0 0 1 (List.length t29) none)), .any, .any, .any, .any, .any, .any, .any, .any, .any, .any, .any, .any, .any, .any, .any, .any, .any, .any, .any, .any, .any, .any, .any, .any, .any, .any, .any, .any], [.ex false [.row 16 (.int .u32) a0, .c (.sc (.int .u32 a1)), .c (.sc (.int .u32 a2)), .row 4 (.int .u64) a3] 28, .gro false (.int .u8) t29 5], 0⟩) ∧ (True ∧ (True ∧ ((True) ∧ ((((0 = 0 ∧ (List.length t29) = (List.length t29))) ∧ True) ∧ (True) ∧ True) ∧ (.tup [.one (.fs (.int .u8) t29 false), .one (.err none)] : Tm) = regs_Encode.R r ∧ ([] : List Box) = [])))) ∨ (∃ t31 : (List Int) × (Option Int), Trip cfg (.loop (cpath (Try.f8.body.getD .skip) [1, 1, 1, 0, 1, 0, 0])) ⟨[.any, .any, .any, .any, .any, .v (.one (.os 1 0 0 1 0 none)), .any, .any, .any, .any, .any, .any, .any, .any, .any, .any, .any, .v (.agg [.row 26 (.int .u32) t3]), .v (.one (.sc (.int .i64 (0 : Int)))), .any, .any, .any, .any, .any, .any, .any, .any, .any, .any, .any, .any, .any, .any, .any], [.ex false [.row 16 (.int .u32) a0, .c (.sc (.int .u32 a1)), .c (.sc (.int .u32 a2)), .row 4 (.int .u64) a3] 28, .gro false (.int .u8) ([] : List Int) 5], 0⟩ (fun e s => e = .ret ∧ s = ⟨[.any, .any, .v (.one (.sc (.slice none 0 0))), .v (.one (.err t31.2)), .any, .any, .any, .any, .any, .any, .any, .any, .any, .any, .any, .any, .any, .any, .any, .any, .any, .any, .any, .any, .any, .any, .any, .any, .any, .any, .any, .any, .any, .any], [.ex false [.row 16 (.int .u32) a0, .c (.sc (.int .u32 a1)), .c (.sc (.int .u32 a2)), .row 4 (.int .u64) a3] 28, .gro false (.int .u8) t31.1 5], 0⟩) ∧ ((True) ∧ ((True) ∧ (True) ∧ True) ∧ (.tup [.one (.fs (.int .u8) ([] : List Int) false), .one (.err t31.2)] : Tm) = regs_Encode.R r ∧ ([] : List Box) = []))))))))) (by kernel_rfl) ?_)
  refine ⟨trivial, ?_⟩
  obtain ⟨t1, ht1, h⟩ := of_bind h
  refine ⟨t1, ⟨regs_Check.fun_ ht1, trivial⟩, ?_⟩
  refine ⟨trivial, ?_⟩
  refine ⟨fun b2 => ?_, fun b2 => ?_⟩
  · rw [if_pos (none_f (not_t b2))] at h
    refine ⟨trivial, ?_⟩
    refine ⟨trivial, ?_⟩
    obtain rfl := Option.some.inj h
    exact ⟨trivial, ⟨trivial, trivial, trivial⟩, rfl, rfl⟩
  · rw [if_neg (not_not_intro (none_t (not_f b2)))] at h
    refine ⟨(by decide), ?_⟩
    refine ⟨trivial, ?_⟩
    obtain ⟨t3, ht3, h⟩ := of_bind h
    refine ⟨t3, ⟨regs_words.fun_ ht3, trivial⟩, ?_⟩
    obtain ⟨t20, ht20, h⟩ := of_bind h
    refine ⟨⟨trivial, trivial⟩, ?_⟩
    rcases t20 with t29 | t31
    · dsimp only at h
      left
      refine ⟨t29, Trip.loop FUEL (regs_Encode.l0_ok t3 a0 a1 a2 a3 FUEL ([] : List Int) (0 : Int) (.inl t29) ht20), ?_⟩
      refine ⟨trivial, ?_⟩
      refine ⟨trivial, ?_⟩
      obtain rfl := Option.some.inj h
      exact ⟨trivial, ⟨⟨⟨rfl, rfl⟩, trivial⟩, trivial, trivial⟩, rfl, rfl⟩
    · dsimp only at h
      right
      refine ⟨t31, Trip.loop FUEL (regs_Encode.l0_ok t3 a0 a1 a2 a3 FUEL ([] : List Int) (0 : Int) (.inr t31) ht20), ?_⟩
      obtain rfl := Option.some.inj h
      exact ⟨trivial, ⟨trivial, trivial, trivial⟩, rfl, rfl⟩
/-! halter/word.Load -/
def word_Load.l0 (a0 : (List Int)) : Nat → Int → Int → Option Int
  | 0, _, _ => none
  | n + 1, x3, x4 =>
    if x4 < (((List.length a0) : Nat) : Int) then
      if 0 ≤ x4 ∧ x4 < (((List.length a0) : Nat) : Int) then
        if 0 ≤ (IntKind.wrap .i64 ((8 : Int) * x4)) then
          word_Load.l0 a0 n (bits .or .u32 x3 (shl .u32 (IntKind.wrap .u32 ((List.getD a0 (Int.toNat x4) (0 : Int)))) (IntKind.wrap .i64 ((8 : Int) * x4)))) (IntKind.wrap .i64 (x4 + (1 : Int)))
        else none
      else none
    else
      some x3
def word_Load.l0_S (a0 : (List Int)) (x3 : Int) (x4 : Int) : St := ⟨[.any, .any, .any, .any, .v (.one (.sc (.int .u32 x3))), .any, .any, .any, .any, .any, .any, .any, .v (.one (.fs (.int .u8) a0 false)), .v (.one (.sc (.int .i64 (((List.length a0) : Nat) : Int)))), .v (.one (.sc (.int .i64 x4))), .any, .any, .any, .any, .any, .any, .any, .any, .any, .any, .any, .any, .any], [], 0⟩
def word_Load.l0_Q (a0 : (List Int)) (t : Int) : Exit → St → Prop := fun e s => e = (.exit 0) ∧ s = ⟨[.any, .any, .any, .any, .v (.one (.sc (.int .u32 t))), .any, .any, .any, .any, .any, .any, .any, .any, .any, .any, .any, .any, .any, .any, .any, .any, .any, .any, .any, .any, .any, .any, .any], [], 0⟩
theorem word_Load.l0_ok (a0 : (List Int)) : ∀ (n : Nat) (x3 : Int) (x4 : Int) (r : Int), word_Load.l0 a0 n x3 x4 = some r → TripN cfg (cpath (Try.f14.body.getD .skip) [1, 1, 1, 0, 1, 0, 0]) n (word_Load.l0_S a0 x3 x4) (word_Load.l0_Q a0 r)
  | 0, _, _, r, h => by cases h
  | n + 1, x3, x4, r, h => by
    rw [word_Load.l0] at h
    refine TripN.of_run cfg_ok (k := (.br (.adj [] (.adj [] (.adj [] (.adj [] (.adj [.keep [4, 12, 13, 14], .drop 0] .nil))))) (.adj [.keep [4], .drop 0] .nil))) (to_goal (q := (True) ∧ (((decide (x4 < (((List.length a0) : Nat) : Int))) = true → (True ∧ (True ∧ (0 ≤ x4 ∧ x4 < (((List.length a0) : Nat) : Int)) ∧ (True) ∧ (True ∧ (True) ∧ (True) ∧ (0 ≤ (IntKind.wrap .i64 ((8 : Int) * x4))) ∧ (True) ∧ (True ∧ (True) ∧ (((True) ∧ (True) ∧ True) ∧ TripN cfg (cpath (Try.f14.body.getD .skip) [1, 1, 1, 0, 1, 0, 0]) n (word_Load.l0_S a0 (bits .or .u32 x3 (shl .u32 (IntKind.wrap .u32 ((List.getD a0 (Int.toNat x4) (0 : Int)))) (IntKind.wrap .i64 ((8 : Int) * x4)))) (IntKind.wrap .i64 (x4 + (1 : Int)))) (word_Load.l0_Q a0 r))))))) ∧ ((decide (x4 < (((List.length a0) : Nat) : Int))) = false → (((True) ∧ (True) ∧ True) ∧ word_Load.l0_Q a0 r (.exit 0) ⟨[.any, .any, .any, .any, .v (.one (.sc (.int .u32 x3))), .any, .any, .any, .any, .any, .any, .any, .any, .any, .any, .any, .any, .any, .any, .any, .any, .any, .any, .any, .any, .any, .any, .any], [], 0⟩)))) (by kernel_rfl) ?_)
    refine ⟨trivial, ?_⟩
    refine ⟨fun b10 => ?_, fun b10 => ?_⟩
    · rw [if_pos (of_decide_eq_true b10)] at h
      refine ⟨trivial, ?_⟩
      refine ⟨trivial, ?_⟩
      obtain ⟨g12, h⟩ := of_guard h
      refine ⟨g12, ?_⟩
      refine ⟨trivial, ?_⟩
      refine ⟨trivial, ?_⟩
      refine ⟨trivial, ?_⟩
      refine ⟨trivial, ?_⟩
      obtain ⟨g11, h⟩ := of_guard h
      refine ⟨g11, ?_⟩
      refine ⟨trivial, ?_⟩
      refine ⟨trivial, ?_⟩
      refine ⟨trivial, ?_⟩
      exact ⟨⟨trivial, trivial, trivial⟩, word_Load.l0_ok a0 n (bits .or .u32 x3 (shl .u32 (IntKind.wrap .u32 ((List.getD a0 (Int.toNat x4) (0 : Int)))) (IntKind.wrap .i64 ((8 : Int) * x4)))) (IntKind.wrap .i64 (x4 + (1 : Int))) r h⟩
    · rw [if_neg (of_decide_eq_false b10)] at h
      obtain rfl := Option.some.inj h
      exact ⟨⟨trivial, trivial, trivial⟩, rfl, rfl⟩
def word_Load.f (a0 : (List Int)) : Option (Int × (Option Int)) :=
  (word_sized.f (((List.length a0) : Nat) : Int)).bind fun t1 =>
  if ¬ (t1 = true) then
    some ((0 : Int), (some (22 : Int)))
  else
    (word_Load.l0 a0 FUEL (0 : Int) (0 : Int)).bind fun t9 =>
    some (t9, none)
def word_Load.R (r : Int × (Option Int)) : Tm := .tup [.one (.sc (.int .u32 r.1)), .one (.err r.2)]
theorem word_Load.fun_ {a0 : (List Int)} {r : Int × (Option Int)} (h : word_Load.f a0 = some r) : Fun cfg 14 [.one (.fs (.int .u8) a0 false)] [] (word_Load.R r) [] := by
  unfold word_Load.f at h
  refine fun_of_run cfg_ok (f := 14) (fn := Try.f14) Try.func14 rfl (by kernel_rfl) (rs := [.tmp 2, .tmp 3]) rfl (nt := 28) rfl (l := fin) (k := (.call true [] (Bool) (fun t1 => word_sized.R t1) (fun t1 => (.br (.adj [] (.adj [] (.adj [] .nil))) (.adj [] (.adj [] (.adj [] (.adj [.keep [4, 12, 13, 14]] (.sub (Int) (fun _ => (.exit 0)) (fun t9 => ⟨[.any, .any, .any, .any, .v (.one (.sc (.int .u32 t9))), .any, .any, .any, .any, .any, .any, .any, .any, .any, .any, .any, .any, .any, .any, .any, .any, .any, .any, .any, .any, .any, .any, .any], [], 0⟩) (fun t9 => (.adj [] (.adj [] (.adj [] .nil))))))))))))) (to_goal (q := (True) ∧ (∃ t1 : Bool, (Fun cfg 15 [.one (.sc (.int .i64 (((List.length a0) : Nat) : Int)))] [] (word_sized.R t1) [] ∧ True) ∧ (((!t1) = true → (True ∧ (True ∧ ((True) ∧ (True) ∧ (.tup [.one (.sc (.int .u32 (0 : Int))), .one (.err (some (22 : Int)))] : Tm) = word_Load.R r ∧ ([] : List Box) = [])))) ∧ ((!t1) = false → (True ∧ (True ∧ (True ∧ (True) ∧ (((True) ∧ True) ∧ (∃ t9 : Int, Trip cfg (.loop (cpath (Try.f14.body.getD .skip) [1, 1, 1, 0, 1, 0, 0])) ⟨[.any, .any, .any, .any, .v (.one (.sc (.int .u32 (0 : Int)))), .any, .any, .any, .any, .any, .any, .any, .v (.one (.fs (.int .u8) a0 false)), .v (.one (.sc (.int .i64 (((List.length a0) : Nat) : Int)))), .v (.one (.sc (.int .i64 (0 : Int)))), .any, .any, .any, .any, .any, .any, .any, .any, .any, .any, .any, .any, .any], [], 0⟩ (fun e s => e = (.exit 0) ∧ s = ⟨[.any, .any, .any, .any, .v (.one (.sc (.int .u32 t9))), .any, .any, .any, .any, .any, .any, .any, .any, .any, .any, .any, .any, .any, .any, .any, .any, .any, .any, .any, .any, .any, .any, .any], [], 0⟩) ∧ (True ∧ (True ∧ ((True) ∧ (True) ∧ (.tup [.one (.sc (.int .u32 t9)), .one (.err none)] : Tm) = word_Load.R r ∧ ([] : List Box) = [])))))))))))) (by kernel_rfl) ?_)
  refine ⟨trivial, ?_⟩
  obtain ⟨t1, ht1, h⟩ := of_bind h
  refine ⟨t1, ⟨word_sized.fun_ ht1, trivial⟩, ?_⟩
  refine ⟨fun b2 => ?_, fun b2 => ?_⟩
  · rw [if_pos (ff (not_t b2))] at h
    refine ⟨trivial, ?_⟩
    refine ⟨trivial, ?_⟩
    obtain rfl := Option.some.inj h
    exact ⟨trivial, trivial, rfl, rfl⟩
  · rw [if_neg (not_not_intro (not_f b2))] at h
    refine ⟨trivial, ?_⟩
    refine ⟨trivial, ?_⟩
    refine ⟨trivial, ?_⟩
    refine ⟨trivial, ?_⟩
    obtain ⟨t9, ht9, h⟩ := of_bind h
    refine ⟨⟨trivial, trivial⟩, t9, Trip.loop FUEL (word_Load.l0_ok a0 FUEL (0 : Int) (0 : Int) t9 ht9), ?_⟩
    refine ⟨trivial, ?_⟩
    refine ⟨trivial, ?_⟩
    obtain rfl := Option.some.inj h
    exact ⟨trivial, trivial, rfl, rfl⟩
/-! halter/regs.of -/
def regs_of.l0 (a0 : (List Int)) : Nat → (List Int) → Int → Option (List Int)
  | 0, _, _ => none
  | n + 1, x11, x12 =>
    if x12 < (4 : Int) then
      if 0 ≤ (IntKind.wrap .i64 ((18 : Int) + (IntKind.wrap .i64 ((2 : Int) * x12)))) ∧ (IntKind.wrap .i64 ((18 : Int) + (IntKind.wrap .i64 ((2 : Int) * x12)))) < ((26 : Nat) : Int) then
        if (Int.toNat (IntKind.wrap .i64 ((18 : Int) + (IntKind.wrap .i64 ((2 : Int) * x12))))) < 26 then
          if 0 ≤ (IntKind.wrap .i64 ((IntKind.wrap .i64 ((18 : Int) + (IntKind.wrap .i64 ((2 : Int) * x12)))) + (1 : Int))) ∧ (IntKind.wrap .i64 ((IntKind.wrap .i64 ((18 : Int) + (IntKind.wrap .i64 ((2 : Int) * x12)))) + (1 : Int))) < ((26 : Nat) : Int) then
            if (Int.toNat (IntKind.wrap .i64 ((IntKind.wrap .i64 ((18 : Int) + (IntKind.wrap .i64 ((2 : Int) * x12)))) + (1 : Int)))) < 26 then
              if 0 ≤ x12 ∧ x12 < ((4 : Nat) : Int) then
                if (Int.toNat x12) < 4 then
                  regs_of.l0 a0 n (List.set x11 (Int.toNat x12) (bits .or .u64 (IntKind.wrap .u64 ((List.getD a0 (Int.toNat (IntKind.wrap .i64 ((18 : Int) + (IntKind.wrap .i64 ((2 : Int) * x12))))) (0 : Int)))) (shl .u64 (IntKind.wrap .u64 ((List.getD a0 (Int.toNat (IntKind.wrap .i64 ((IntKind.wrap .i64 ((18 : Int) + (IntKind.wrap .i64 ((2 : Int) * x12)))) + (1 : Int)))) (0 : Int)))) (32 : Int)))) (IntKind.wrap .i64 (x12 + (1 : Int)))
                else none
              else none
            else none
          else none
        else none
      else none
    else
      some x11
def regs_of.l0_S (a0 : (List Int)) (x11 : List Int) (x12 : Int) : St := ⟨[.any, .v (.one (.ptr 0 ⟨0, 0, 0, 0⟩)), .v (.one (.ptr 1 ⟨0, 0, 0, 0⟩)), .any, .v (.one (.ptr 2 ⟨0, 0, 0, 0⟩)), .any, .any, .any, .any, .any, .any, .any, .any, .any, .any, .v (.one (.sc (.int .i64 x12))), .any, .any, .any, .any, .any, .any, .any, .any, .any, .any, .any, .any, .any, .any, .any, .any, .any, .any, .any, .any, .any, .any, .any, .any, .any, .any, .any, .any], [.ex false [.row 26 (.int .u32) a0] 44, .ex false [.row 16 (.int .u32) (List.replicate 16 (0 : Int)), .c (.sc (.int .u32 (0 : Int))), .c (.sc (.int .u32 (0 : Int))), .row 4 (.int .u64) (List.replicate 4 (0 : Int))] 28, .ex false [.row 16 (.int .u32) (List.take 16 a0), .c (.sc (.int .u32 (List.getD a0 16 (0 : Int)))), .c (.sc (.int .u32 (List.getD a0 17 (0 : Int)))), .row 4 (.int .u64) x11] 28], 0⟩
def regs_of.l0_Q (a0 : (List Int)) (t : (List Int)) : Exit → St → Prop := fun e s => e = (.exit 0) ∧ s = ⟨[.any, .any, .v (.one (.ptr 1 ⟨0, 0, 0, 0⟩)), .any, .v (.one (.ptr 2 ⟨0, 0, 0, 0⟩)), .any, .any, .any, .any, .any, .any, .any, .any, .any, .any, .any, .any, .any, .any, .any, .any, .any, .any, .any, .any, .any, .any, .any, .any, .any, .any, .any, .any, .any, .any, .any, .any, .any, .any, .any, .any, .any, .any, .any], [.ex false [.row 26 (.int .u32) a0] 44, .ex false [.row 16 (.int .u32) (List.replicate 16 (0 : Int)), .c (.sc (.int .u32 (0 : Int))), .c (.sc (.int .u32 (0 : Int))), .row 4 (.int .u64) (List.replicate 4 (0 : Int))] 28, .ex false [.row 16 (.int .u32) (List.take 16 a0), .c (.sc (.int .u32 (List.getD a0 16 (0 : Int)))), .c (.sc (.int .u32 (List.getD a0 17 (0 : Int)))), .row 4 (.int .u64) t] 28], 0⟩
theorem regs_of.l0_ok (a0 : (List Int)) : ∀ (n : Nat) (x11 : List Int) (x12 : Int) (r : (List Int)), regs_of.l0 a0 n x11 x12 = some r → TripN cfg (cpath (Try.f11.body.getD .skip) [1, 1, 0, 1, 0, 0]) n (regs_of.l0_S a0 x11 x12) (regs_of.l0_Q a0 r)
  | 0, _, _, r, h => by cases h
  | n + 1, x11, x12, r, h => by
    rw [regs_of.l0] at h
    refine TripN.of_run cfg_ok (k := (.br (.reg (Unit) (fun t24 => [(0, ⟨none, .no⟩), (1, ⟨none, .no⟩), (2, ⟨none, .no⟩), (3, ⟨none, .no⟩), (4, ⟨none, .no⟩), (5, ⟨none, .no⟩), (6, ⟨none, .no⟩), (7, ⟨none, .no⟩), (8, ⟨none, .no⟩), (9, ⟨none, .no⟩), (10, ⟨none, .no⟩), (11, ⟨none, .no⟩), (12, ⟨none, .no⟩), (13, ⟨none, .no⟩), (14, ⟨none, .no⟩), (15, ⟨none, .no⟩), (16, ⟨none, .no⟩), (17, ⟨none, .no⟩), (18, ⟨none, .no⟩)]) (fun t24 => (.adj [] (.adj [.keep [1, 2, 4, 15], .drop 3] .nil)))) (.adj [.keep [2, 4], .drop 3] .nil))) (to_goal (q := (True) ∧ (((decide (x12 < (4 : Int))) = true → (∃ t24 : Unit, (True) ∧ (True) ∧ (True) ∧ (True) ∧ (0 ≤ (IntKind.wrap .i64 ((18 : Int) + (IntKind.wrap .i64 ((2 : Int) * x12)))) ∧ (IntKind.wrap .i64 ((18 : Int) + (IntKind.wrap .i64 ((2 : Int) * x12)))) < ((26 : Nat) : Int)) ∧ ((Int.toNat (IntKind.wrap .i64 ((18 : Int) + (IntKind.wrap .i64 ((2 : Int) * x12))))) < 26) ∧ (True) ∧ (True) ∧ (True) ∧ (True) ∧ (True) ∧ (0 ≤ (IntKind.wrap .i64 ((IntKind.wrap .i64 ((18 : Int) + (IntKind.wrap .i64 ((2 : Int) * x12)))) + (1 : Int))) ∧ (IntKind.wrap .i64 ((IntKind.wrap .i64 ((18 : Int) + (IntKind.wrap .i64 ((2 : Int) * x12)))) + (1 : Int))) < ((26 : Nat) : Int)) ∧ ((Int.toNat (IntKind.wrap .i64 ((IntKind.wrap .i64 ((18 : Int) + (IntKind.wrap .i64 ((2 : Int) * x12)))) + (1 : Int)))) < 26) ∧ (True) ∧ (0 ≤ (32 : Int)) ∧ (True) ∧ (True) ∧ (0 ≤ x12 ∧ x12 < ((4 : Nat) : Int)) ∧ ((Int.toNat x12) < 4) ∧ (True ∧ (True) ∧ (((True) ∧ (True) ∧ True) ∧ TripN cfg (cpath (Try.f11.body.getD .skip) [1, 1, 0, 1, 0, 0]) n (regs_of.l0_S a0 (List.set x11 (Int.toNat x12) (bits .or .u64 (IntKind.wrap .u64 ((List.getD a0 (Int.toNat (IntKind.wrap .i64 ((18 : Int) + (IntKind.wrap .i64 ((2 : Int) * x12))))) (0 : Int)))) (shl .u64 (IntKind.wrap .u64 ((List.getD a0 (Int.toNat (IntKind.wrap .i64 ((IntKind.wrap .i64 ((18 : Int) + (IntKind.wrap .i64 ((2 : Int) * x12)))) + (1 : Int)))) (0 : Int)))) (32 : Int)))) (IntKind.wrap .i64 (x12 + (1 : Int)))) (regs_of.l0_Q a0 r))))) ∧ ((decide (x12 < (4 : Int))) = false → (((True) ∧ (True) ∧ True) ∧ regs_of.l0_Q a0 r (.exit 0) ⟨[.any, .any, .v (.one (.ptr 1 ⟨0, 0, 0, 0⟩)), .any, .v (.one (.ptr 2 ⟨0, 0, 0, 0⟩)), .any, .any, .any, .any, .any, .any, .any, .any, .any, .any, .any, .any, .any, .any, .any, .any, .any, .any, .any, .any, .any, .any, .any, .any, .any, .any, .any, .any, .any, .any, .any, .any, .any, .any, .any, .any, .any, .any, .any], [.ex false [.row 26 (.int .u32) a0] 44, .ex false [.row 16 (.int .u32) (List.replicate 16 (0 : Int)), .c (.sc (.int .u32 (0 : Int))), .c (.sc (.int .u32 (0 : Int))), .row 4 (.int .u64) (List.replicate 4 (0 : Int))] 28, .ex false [.row 16 (.int .u32) (List.take 16 a0), .c (.sc (.int .u32 (List.getD a0 16 (0 : Int)))), .c (.sc (.int .u32 (List.getD a0 17 (0 : Int)))), .row 4 (.int .u64) x11] 28], 0⟩)))) (by kernel_rfl) ?_)
    refine ⟨trivial, ?_⟩
    refine ⟨fun b23 => ?_, fun b23 => ?_⟩
    · rw [if_pos (of_decide_eq_true b23)] at h
      obtain ⟨g25, h⟩ := of_guard h
      obtain ⟨g26, h⟩ := of_guard h
      obtain ⟨g27, h⟩ := of_guard h
      obtain ⟨g28, h⟩ := of_guard h
      obtain ⟨g29, h⟩ := of_guard h
      obtain ⟨g30, h⟩ := of_guard h
      refine ⟨(), trivial, trivial, trivial, trivial, g25, g26, trivial, trivial, trivial, trivial, trivial, g27, g28, trivial, (by decide), trivial, trivial, g29, g30, ?_⟩
      refine ⟨trivial, ?_⟩
      refine ⟨trivial, ?_⟩
      exact ⟨⟨trivial, trivial, trivial⟩, regs_of.l0_ok a0 n (List.set x11 (Int.toNat x12) (bits .or .u64 (IntKind.wrap .u64 ((List.getD a0 (Int.toNat (IntKind.wrap .i64 ((18 : Int) + (IntKind.wrap .i64 ((2 : Int) * x12))))) (0 : Int)))) (shl .u64 (IntKind.wrap .u64 ((List.getD a0 (Int.toNat (IntKind.wrap .i64 ((IntKind.wrap .i64 ((18 : Int) + (IntKind.wrap .i64 ((2 : Int) * x12)))) + (1 : Int)))) (0 : Int)))) (32 : Int)))) (IntKind.wrap .i64 (x12 + (1 : Int))) r h⟩
    · rw [if_neg (of_decide_eq_false b23)] at h
      obtain rfl := Option.some.inj h
      exact ⟨⟨trivial, trivial, trivial⟩, rfl, rfl⟩
def regs_of.f (a0 : (List Int)) : Option ((List Int) × Int × Int × (List Int) × (Option Int)) :=
  (regs_of.l0 a0 FUEL (List.replicate 4 (0 : Int)) (0 : Int)).bind fun t22 =>
  (regs_Check.f (List.take 16 a0) (List.getD a0 16 (0 : Int)) (List.getD a0 17 (0 : Int)) t22).bind fun t33 =>
  if ¬ (t33 = none) then
    some ((List.replicate 16 (0 : Int)), (0 : Int), (0 : Int), (List.replicate 4 (0 : Int)), t33)
  else
    some ((List.take 16 a0), (List.getD a0 16 (0 : Int)), (List.getD a0 17 (0 : Int)), t22, none)
def regs_of.R (r : (List Int) × Int × Int × (List Int) × (Option Int)) : Tm := .tup [.agg [.row 16 (.int .u32) r.1, .c (.sc (.int .u32 r.2.1)), .c (.sc (.int .u32 r.2.2.1)), .row 4 (.int .u64) r.2.2.2.1], .one (.err r.2.2.2.2)]
theorem regs_of.fun_ {a0 : (List Int)} {r : (List Int) × Int × Int × (List Int) × (Option Int)} (h : regs_of.f a0 = some r) : Fun cfg 11 [.agg [.row 26 (.int .u32) a0]] [] (regs_of.R r) [] := by
  unfold regs_of.f at h
  refine fun_of_run cfg_ok (f := 11) (fn := Try.f11) Try.func11 rfl (by kernel_rfl) (rs := [.cell 2 28, .tmp 3]) rfl (nt := 44) rfl (l := fin) (k := (.reg (Unit) (fun t1 => [(0, ⟨none, .no⟩), (1, ⟨none, .no⟩), (2, ⟨none, .no⟩), (3, ⟨none, .no⟩), (4, ⟨none, .no⟩), (5, ⟨none, .no⟩), (6, ⟨none, .no⟩), (7, ⟨none, .no⟩), (8, ⟨none, .no⟩), (9, ⟨none, .no⟩)]) (fun t1 => (.adj [] (.adj [.keep [1, 2, 4, 15]] (.sub ((List Int)) (fun _ => (.exit 0)) (fun t22 => ⟨[.any, .any, .v (.one (.ptr 1 ⟨0, 0, 0, 0⟩)), .any, .v (.one (.ptr 2 ⟨0, 0, 0, 0⟩)), .any, .any, .any, .any, .any, .any, .any, .any, .any, .any, .any, .any, .any, .any, .any, .any, .any, .any, .any, .any, .any, .any, .any, .any, .any, .any, .any, .any, .any, .any, .any, .any, .any, .any, .any, .any, .any, .any, .any], [.ex false [.row 26 (.int .u32) a0] 44, .ex false [.row 16 (.int .u32) (List.replicate 16 (0 : Int)), .c (.sc (.int .u32 (0 : Int))), .c (.sc (.int .u32 (0 : Int))), .row 4 (.int .u64) (List.replicate 4 (0 : Int))] 28, .ex false [.row 16 (.int .u32) (List.take 16 a0), .c (.sc (.int .u32 (List.getD a0 16 (0 : Int)))), .c (.sc (.int .u32 (List.getD a0 17 (0 : Int)))), .row 4 (.int .u64) t22] 28], 0⟩) (fun t22 => (.call true [] ((Option Int)) (fun t33 => regs_Check.R t33) (fun t33 => (.br (.adj [] (.adj [] (.adj [.drop 0] .nil))) (.adj [] (.adj [] (.adj [] (.adj [.drop 0] .nil)))))))))))))) (to_goal (q := (∃ t1 : Unit, ((True) ∧ ((0 ≤ (16 : Int) ∧ (16 : Int) ≤ ((26 : Nat) : Int))) ∧ (True) ∧ (false = true → true = true)) ∧ (16 ≤ 16) ∧ (0 + 16 ≤ 26) ∧ (0 ≤ (16 : Int) ∧ (16 : Int) < ((26 : Nat) : Int)) ∧ (16 < 26) ∧ (0 ≤ (17 : Int) ∧ (17 : Int) < ((26 : Nat) : Int)) ∧ (17 < 26) ∧ (True) ∧ (True) ∧ (True) ∧ (True ∧ (((True) ∧ True) ∧ (∃ t22 : (List Int), Trip cfg (.loop (cpath (Try.f11.body.getD .skip) [1, 1, 0, 1, 0, 0])) ⟨[.any, .v (.one (.ptr 0 ⟨0, 0, 0, 0⟩)), .v (.one (.ptr 1 ⟨0, 0, 0, 0⟩)), .any, .v (.one (.ptr 2 ⟨0, 0, 0, 0⟩)), .any, .any, .any, .any, .any, .any, .any, .any, .any, .any, .v (.one (.sc (.int .i64 (0 : Int)))), .any, .any, .any, .any, .any, .any, .any, .any, .any, .any, .any, .any, .any, .any, .any, .any, .any, .any, .any, .any, .any, .any, .any, .any, .any, .any, .any, .any], [.ex false [.row 26 (.int .u32) a0] 44, .ex false [.row 16 (.int .u32) (List.replicate 16 (0 : Int)), .c (.sc (.int .u32 (0 : Int))), .c (.sc (.int .u32 (0 : Int))), .row 4 (.int .u64) (List.replicate 4 (0 : Int))] 28, .ex false [.row 16 (.int .u32) (List.take 16 a0), .c (.sc (.int .u32 (List.getD a0 16 (0 : Int)))), .c (.sc (.int .u32 (List.getD a0 17 (0 : Int)))), .row 4 (.int .u64) (List.replicate 4 (0 : Int))] 28], 0⟩ (fun e s => e = (.exit 0) ∧ s = ⟨[.any, .any, .v (.one (.ptr 1 ⟨0, 0, 0, 0⟩)), .any, .v (.one (.ptr 2 ⟨0, 0, 0, 0⟩)), .any, .any, .any, .any, .any, .any, .any, .any, .any, .any, .any, .any, .any, .any, .any, .any, .any, .any, .any, .any, .any, .any, .any, .any, .any, .any, .any, .any, .any, .any, .any, .any, .any, .any, .any, .any, .any, .any, .any], [.ex false [.row 26 (.int .u32) a0] 44, .ex false [.row 16 (.int .u32) (List.replicate 16 (0 : Int)), .c (.sc (.int .u32 (0 : Int))), .c (.sc (.int .u32 (0 : Int))), .row 4 (.int .u64) (List.replicate 4 (0 : Int))] 28, .ex false [.row 16 (.int .u32) (List.take 16 a0), .c (.sc (.int .u32 (List.getD a0 16 (0 : Int)))), .c (.sc (.int .u32 (List.getD a0 17 (0 : Int)))), .row 4 (.int .u64) t22] 28], 0⟩) ∧ (True) ∧ (∃ t33 : (Option Int), (Fun cfg 12 [.agg [.row 16 (.int .u32) (List.take 16 a0), .c (.sc (.int .u32 (List.getD a0 16 (0 : Int)))), .c (.sc (.int .u32 (List.getD a0 17 (0 : Int)))), .row 4 (.int .u64) t22]] [] (regs_Check.R t33) [] ∧ True) ∧ (True) ∧ (((!(Option.isNone t33)) = true → (True ∧ (True) ∧ (True ∧ (((True) ∧ True) ∧ ((True) ∧ True) ∧ (.tup [.agg [.row 16 (.int .u32) (List.replicate 16 (0 : Int)), .c (.sc (.int .u32 (0 : Int))), .c (.sc (.int .u32 (0 : Int))), .row 4 (.int .u64) (List.replicate 4 (0 : Int))], .one (.err t33)] : Tm) = regs_of.R r ∧ ([] : List Box) = [])))) ∧ ((!(Option.isNone t33)) = false → (True ∧ (True ∧ (True) ∧ (True) ∧ (True ∧ (((True) ∧ True) ∧ ((True) ∧ True) ∧ (.tup [.agg [.row 16 (.int .u32) (List.take 16 a0), .c (.sc (.int .u32 (List.getD a0 16 (0 : Int)))), .c (.sc (.int .u32 (List.getD a0 17 (0 : Int)))), .row 4 (.int .u64) t22], .one (.err none)] : Tm) = regs_of.R r ∧ ([] : List Box) = [])))))))))))) (by kernel_rfl) ?_)
  refine ⟨(), ⟨trivial, (by decide), trivial, (by decide)⟩, (by decide), (by decide), (by decide), (by decide), (by decide), (by decide), trivial, trivial, trivial, ?_⟩
  refine ⟨trivial, ?_⟩
  obtain ⟨t22, ht22, h⟩ := of_bind h
  refine ⟨⟨trivial, trivial⟩, t22, Trip.loop FUEL (regs_of.l0_ok a0 FUEL (List.replicate 4 (0 : Int)) (0 : Int) t22 ht22), ?_⟩
  refine ⟨trivial, ?_⟩
  obtain ⟨t33, ht33, h⟩ := of_bind h
  refine ⟨t33, ⟨regs_Check.fun_ ht33, trivial⟩, ?_⟩
  refine ⟨trivial, ?_⟩
  refine ⟨fun b34 => ?_, fun b34 => ?_⟩
  · rw [if_pos (none_f (not_t b34))] at h
    refine ⟨trivial, ?_⟩
    refine ⟨trivial, ?_⟩
    refine ⟨trivial, ?_⟩
    obtain rfl := Option.some.inj h
    exact ⟨⟨trivial, trivial⟩, ⟨trivial, trivial⟩, rfl, rfl⟩
  · rw [if_neg (not_not_intro (none_t (not_f b34)))] at h
    refine ⟨trivial, ?_⟩
    refine ⟨trivial, ?_⟩
    refine ⟨trivial, ?_⟩
    refine ⟨trivial, ?_⟩
    refine ⟨trivial, ?_⟩
    obtain rfl := Option.some.inj h
    exact ⟨⟨trivial, trivial⟩, ⟨trivial, trivial⟩, rfl, rfl⟩
/-! halter/regs.Decode -/
def regs_Decode.l0 (a0 : (List Int)) : Nat → (List Int) → Int → Option (((List Int)) ⊕ ((List Int) × (Option Int)))
  | 0, _, _ => none
  | n + 1, x9, x10 =>
    if x10 < (26 : Int) then
      if ((0 ≤ (IntKind.wrap .i64 ((IntKind.wrap .i64 (x10 + (1 : Int))) * (4 : Int))) ∧ (IntKind.wrap .i64 ((IntKind.wrap .i64 (x10 + (1 : Int))) * (4 : Int))) ≤ (((List.length a0) : Nat) : Int))) ∧ ((0 ≤ (IntKind.wrap .i64 (x10 * (4 : Int))) ∧ (IntKind.wrap .i64 (x10 * (4 : Int))) ≤ (((Int.toNat (IntKind.wrap .i64 ((IntKind.wrap .i64 (x10 + (1 : Int))) * (4 : Int)))) : Nat) : Int))) then
        (word_Load.f (List.drop (Int.toNat (IntKind.wrap .i64 (x10 * (4 : Int)))) (List.take (Int.toNat (IntKind.wrap .i64 ((IntKind.wrap .i64 (x10 + (1 : Int))) * (4 : Int)))) a0))).bind fun t22 =>
        if ¬ (t22.2 = none) then
          some (.inr (x9, t22.2))
        else
          if 0 ≤ x10 ∧ x10 < ((26 : Nat) : Int) then
            if (Int.toNat x10) < 26 then
              regs_Decode.l0 a0 n (List.set x9 (Int.toNat x10) t22.1) (IntKind.wrap .i64 (x10 + (1 : Int)))
            else none
          else none
      else none
    else
      some (.inl x9)
def regs_Decode.l0_S (a0 : (List Int)) (x9 : List Int) (x10 : Int) : St := ⟨[.v (.one (.fs (.int .u8) a0 false)), .any, .v (.one (.ptr 0 ⟨0, 0, 0, 0⟩)), .any, .v (.one (.ptr 1 ⟨0, 0, 0, 0⟩)), .any, .any, .any, .any, .any, .any, .any, .any, .v (.one (.sc (.int .i64 x10))), .any, .any, .any, .any, .any, .any, .any, .any, .any, .any, .any, .any, .any, .any, .any, .any, .any, .any, .any, .any, .any, .any, .any, .any, .any], [.ex false [.row 16 (.int .u32) (List.replicate 16 (0 : Int)), .c (.sc (.int .u32 (0 : Int))), .c (.sc (.int .u32 (0 : Int))), .row 4 (.int .u64) (List.replicate 4 (0 : Int))] 28, .ex false [.row 26 (.int .u32) x9] 44], 0⟩
def regs_Decode.l0_Q (a0 : (List Int)) : ((List Int)) ⊕ ((List Int) × (Option Int)) → Exit → St → Prop
  | .inl t => fun e s => e = (.exit 0) ∧ s = ⟨[.any, .any, .v (.one (.ptr 0 ⟨0, 0, 0, 0⟩)), .any, .v (.one (.ptr 1 ⟨0, 0, 0, 0⟩)), .any, .any, .any, .any, .any, .any, .any, .any, .any, .any, .any, .any, .any, .any, .any, .any, .any, .any, .any, .any, .any, .any, .any, .any, .any, .any, .any, .any, .any, .any, .any, .any, .any, .any], [.ex false [.row 16 (.int .u32) (List.replicate 16 (0 : Int)), .c (.sc (.int .u32 (0 : Int))), .c (.sc (.int .u32 (0 : Int))), .row 4 (.int .u64) (List.replicate 4 (0 : Int))] 28, .ex false [.row 26 (.int .u32) t] 44], 0⟩
  | .inr t => fun e s => e = .ret ∧ s = ⟨[.any, .any, .v (.one (.ptr 0 ⟨0, 0, 0, 0⟩)), .v (.one (.err t.2)), .any, .any, .any, .any, .any, .any, .any, .any, .any, .any, .any, .any, .any, .any, .any, .any, .any, .any, .any, .any, .any, .any, .any, .any, .any, .any, .any, .any, .any, .any, .any, .any, .any, .any, .any], [.ex false [.row 16 (.int .u32) (List.replicate 16 (0 : Int)), .c (.sc (.int .u32 (0 : Int))), .c (.sc (.int .u32 (0 : Int))), .row 4 (.int .u64) (List.replicate 4 (0 : Int))] 28, .ex false [.row 26 (.int .u32) t.1] 44], 0⟩
theorem regs_Decode.l0_ok (a0 : (List Int)) : ∀ (n : Nat) (x9 : List Int) (x10 : Int) (r : ((List Int)) ⊕ ((List Int) × (Option Int))), regs_Decode.l0 a0 n x9 x10 = some r → TripN cfg (cpath (Try.f9.body.getD .skip) [1, 1, 1, 0, 1, 0, 0]) n (regs_Decode.l0_S a0 x9 x10) (regs_Decode.l0_Q a0 r)
  | 0, _, _, r, h => by cases h
  | n + 1, x9, x10, r, h => by
    rw [regs_Decode.l0] at h
    refine TripN.of_run cfg_ok (k := (.br (.call true [] (Int × (Option Int)) (fun t22 => word_Load.R t22) (fun t22 => (.br (.adj [] (.adj [.keep [2, 3], .drop 2] .nil)) (.adj [] (.adj [] (.adj [] (.adj [.keep [0, 2, 4, 13], .drop 2] .nil))))))) (.adj [.keep [2, 4], .drop 2] .nil))) (to_goal (q := (True) ∧ (((decide (x10 < (26 : Int))) = true → (True) ∧ (True) ∧ (True) ∧ (((0 ≤ (IntKind.wrap .i64 ((IntKind.wrap .i64 (x10 + (1 : Int))) * (4 : Int))) ∧ (IntKind.wrap .i64 ((IntKind.wrap .i64 (x10 + (1 : Int))) * (4 : Int))) ≤ (((List.length a0) : Nat) : Int))) ∧ ((0 ≤ (IntKind.wrap .i64 (x10 * (4 : Int))) ∧ (IntKind.wrap .i64 (x10 * (4 : Int))) ≤ (((Int.toNat (IntKind.wrap .i64 ((IntKind.wrap .i64 (x10 + (1 : Int))) * (4 : Int)))) : Nat) : Int)))) ∧ (∃ t22 : Int × (Option Int), (Fun cfg 14 [.one (.fs (.int .u8) (List.drop (Int.toNat (IntKind.wrap .i64 (x10 * (4 : Int)))) (List.take (Int.toNat (IntKind.wrap .i64 ((IntKind.wrap .i64 (x10 + (1 : Int))) * (4 : Int)))) a0)) false)] [] (word_Load.R t22) [] ∧ True) ∧ (True) ∧ (((!(Option.isNone t22.2)) = true → (True ∧ (True) ∧ (((True) ∧ (True) ∧ True) ∧ regs_Decode.l0_Q a0 r .ret ⟨[.any, .any, .v (.one (.ptr 0 ⟨0, 0, 0, 0⟩)), .v (.one (.err t22.2)), .any, .any, .any, .any, .any, .any, .any, .any, .any, .any, .any, .any, .any, .any, .any, .any, .any, .any, .any, .any, .any, .any, .any, .any, .any, .any, .any, .any, .any, .any, .any, .any, .any, .any, .any], [.ex false [.row 16 (.int .u32) (List.replicate 16 (0 : Int)), .c (.sc (.int .u32 (0 : Int))), .c (.sc (.int .u32 (0 : Int))), .row 4 (.int .u64) (List.replicate 4 (0 : Int))] 28, .ex false [.row 26 (.int .u32) x9] 44], 0⟩))) ∧ ((!(Option.isNone t22.2)) = false → (True ∧ (True ∧ (0 ≤ x10 ∧ x10 < ((26 : Nat) : Int)) ∧ ((Int.toNat x10) < 26) ∧ (True ∧ (True) ∧ (((True) ∧ (True) ∧ True) ∧ TripN cfg (cpath (Try.f9.body.getD .skip) [1, 1, 1, 0, 1, 0, 0]) n (regs_Decode.l0_S a0 (List.set x9 (Int.toNat x10) t22.1) (IntKind.wrap .i64 (x10 + (1 : Int)))) (regs_Decode.l0_Q a0 r))))))))) ∧ ((decide (x10 < (26 : Int))) = false → (((True) ∧ (True) ∧ True) ∧ regs_Decode.l0_Q a0 r (.exit 0) ⟨[.any, .any, .v (.one (.ptr 0 ⟨0, 0, 0, 0⟩)), .any, .v (.one (.ptr 1 ⟨0, 0, 0, 0⟩)), .any, .any, .any, .any, .any, .any, .any, .any, .any, .any, .any, .any, .any, .any, .any, .any, .any, .any, .any, .any, .any, .any, .any, .any, .any, .any, .any, .any, .any, .any, .any, .any, .any, .any], [.ex false [.row 16 (.int .u32) (List.replicate 16 (0 : Int)), .c (.sc (.int .u32 (0 : Int))), .c (.sc (.int .u32 (0 : Int))), .row 4 (.int .u64) (List.replicate 4 (0 : Int))] 28, .ex false [.row 26 (.int .u32) x9] 44], 0⟩)))) (by kernel_rfl) ?_)
    refine ⟨trivial, ?_⟩
    refine ⟨fun b21 => ?_, fun b21 => ?_⟩
    · rw [if_pos (of_decide_eq_true b21)] at h
      refine ⟨trivial, ?_⟩
      refine ⟨trivial, ?_⟩
      refine ⟨trivial, ?_⟩
      obtain ⟨g26, h⟩ := of_guard h
      refine ⟨g26, ?_⟩
      obtain ⟨t22, ht22, h⟩ := of_bind h
      refine ⟨t22, ⟨word_Load.fun_ ht22, trivial⟩, ?_⟩
      refine ⟨trivial, ?_⟩
      refine ⟨fun b23 => ?_, fun b23 => ?_⟩
      · rw [if_pos (none_f (not_t b23))] at h
        refine ⟨trivial, ?_⟩
        refine ⟨trivial, ?_⟩
        obtain rfl := Option.some.inj h
        exact ⟨⟨trivial, trivial, trivial⟩, rfl, rfl⟩
      · rw [if_neg (not_not_intro (none_t (not_f b23)))] at h
        refine ⟨trivial, ?_⟩
        refine ⟨trivial, ?_⟩
        obtain ⟨g25, h⟩ := of_guard h
        refine ⟨g25, ?_⟩
        obtain ⟨g24, h⟩ := of_guard h
        refine ⟨g24, ?_⟩
        refine ⟨trivial, ?_⟩
        refine ⟨trivial, ?_⟩
        exact ⟨⟨trivial, trivial, trivial⟩, regs_Decode.l0_ok a0 n (List.set x9 (Int.toNat x10) t22.1) (IntKind.wrap .i64 (x10 + (1 : Int))) r h⟩
    · rw [if_neg (of_decide_eq_false b21)] at h
      obtain rfl := Option.some.inj h
      exact ⟨⟨trivial, trivial, trivial⟩, rfl, rfl⟩
def regs_Decode.f (a0 : (List Int)) : Option ((List Int) × Int × Int × (List Int) × (Option Int)) :=
  if ¬ (((List.length a0) : Nat) : Int) = (104 : Int) then
    some ((List.replicate 16 (0 : Int)), (0 : Int), (0 : Int), (List.replicate 4 (0 : Int)), (some (22 : Int)))
  else
    (regs_Decode.l0 a0 FUEL (List.replicate 26 (0 : Int)) (0 : Int)).bind fun t20 =>
    match t20 with
    | .inl t30 =>
      (regs_of.f t30).bind fun t32 =>
      some (t32.1, t32.2.1, t32.2.2.1, t32.2.2.2.1, t32.2.2.2.2)
    | .inr t33 =>
      some ((List.replicate 16 (0 : Int)), (0 : Int), (0 : Int), (List.replicate 4 (0 : Int)), t33.2)
def regs_Decode.R (r : (List Int) × Int × Int × (List Int) × (Option Int)) : Tm := .tup [.agg [.row 16 (.int .u32) r.1, .c (.sc (.int .u32 r.2.1)), .c (.sc (.int .u32 r.2.2.1)), .row 4 (.int .u64) r.2.2.2.1], .one (.err r.2.2.2.2)]
theorem regs_Decode.fun_ {a0 : (List Int)} {r : (List Int) × Int × Int × (List Int) × (Option Int)} (h : regs_Decode.f a0 = some r) : Fun cfg 9 [.one (.fs (.int .u8) a0 false)] [] (regs_Decode.R r) [] := by
  unfold regs_Decode.f at h
  refine fun_of_run cfg_ok (f := 9) (fn := Try.f9) Try.func9 rfl (by kernel_rfl) (rs := [.cell 2 28, .tmp 3]) rfl (nt := 39) rfl (l := fin) (k := (.br (.adj [] (.adj [] (.adj [.drop 0] .nil))) (.adj [] (.adj [] (.adj [] (.adj [.keep [0, 2, 4, 13]] (.alt (.sub ((List Int)) (fun _ => (.exit 0)) (fun t30 => ⟨[.any, .any, .v (.one (.ptr 0 ⟨0, 0, 0, 0⟩)), .any, .v (.one (.ptr 1 ⟨0, 0, 0, 0⟩)), .any, .any, .any, .any, .any, .any, .any, .any, .any, .any, .any, .any, .any, .any, .any, .any, .any, .any, .any, .any, .any, .any, .any, .any, .any, .any, .any, .any, .any, .any, .any, .any, .any, .any], [.ex false [.row 16 (.int .u32) (List.replicate 16 (0 : Int)), .c (.sc (.int .u32 (0 : Int))), .c (.sc (.int .u32 (0 : Int))), .row 4 (.int .u64) (List.replicate 4 (0 : Int))] 28, .ex false [.row 26 (.int .u32) t30] 44], 0⟩) (fun t30 => (.call true [] ((List Int) × Int × Int × (List Int) × (Option Int)) (fun t32 => regs_of.R t32) (fun t32 => (.adj [] (.adj [.drop 0] .nil)))))) (.sub ((List Int) × (Option Int)) (fun _ => .ret) (fun t33 => ⟨[.any, .any, .v (.one (.ptr 0 ⟨0, 0, 0, 0⟩)), .v (.one (.err t33.2)), .any, .any, .any, .any, .any, .any, .any, .any, .any, .any, .any, .any, .any, .any, .any, .any, .any, .any, .any, .any, .any, .any, .any, .any, .any, .any, .any, .any, .any, .any, .any, .any, .any, .any, .any], [.ex false [.row 16 (.int .u32) (List.replicate 16 (0 : Int)), .c (.sc (.int .u32 (0 : Int))), .c (.sc (.int .u32 (0 : Int))), .row 4 (.int .u64) (List.replicate 4 (0 : Int))] 28, .ex false [.row 26 (.int .u32) t33.1] 44], 0⟩) (fun t33 => (.adj [.drop 0] .nil)))))))))) (to_goal (q := (True) ∧ (True) ∧ ((((((List.length a0) : Nat) : Int) != (104 : Int)) = true → (True ∧ (True) ∧ (True ∧ (((True) ∧ True) ∧ ((True) ∧ True) ∧ (.tup [.agg [.row 16 (.int .u32) (List.replicate 16 (0 : Int)), .c (.sc (.int .u32 (0 : Int))), .c (.sc (.int .u32 (0 : Int))), .row 4 (.int .u64) (List.replicate 4 (0 : Int))], .one (.err (some (22 : Int)))] : Tm) = regs_Decode.R r ∧ ([] : List Box) = [])))) ∧ (((((List.length a0) : Nat) : Int) != (104 : Int)) = false → (True ∧ (True ∧ (True ∧ (((True) ∧ True) ∧ ((∃ t30 : (List Int), Trip cfg (.loop (cpath (Try.f9.body.getD .skip) [1, 1, 1, 0, 1, 0, 0])) ⟨[.v (.one (.fs (.int .u8) a0 false)), .any, .v (.one (.ptr 0 ⟨0, 0, 0, 0⟩)), .any, .v (.one (.ptr 1 ⟨0, 0, 0, 0⟩)), .any, .any, .any, .any, .any, .any, .any, .any, .v (.one (.sc (.int .i64 (0 : Int)))), .any, .any, .any, .any, .any, .any, .any, .any, .any, .any, .any, .any, .any, .any, .any, .any, .any, .any, .any, .any, .any, .any, .any, .any, .any], [.ex false [.row 16 (.int .u32) (List.replicate 16 (0 : Int)), .c (.sc (.int .u32 (0 : Int))), .c (.sc (.int .u32 (0 : Int))), .row 4 (.int .u64) (List.replicate 4 (0 : Int))] 28, .ex false [.row 26 (.int .u32) (List.replicate 26 (0 : Int))] 44], 0⟩ (fun e s => e = (.exit 0) ∧ s = ⟨[.any, .any, .v (.one (.ptr 0 ⟨0, 0, 0, 0⟩)), .any, .v (.one (.ptr 1 ⟨0, 0, 0, 0⟩)), .any, .any, .any, .any, .any, .any, .any, .any, .any, .any, .any, .any, .any, .any, .any, .any, .any, .any, .any, .any, .any, .any, .any, .any, .any, .any, .any, .any, .any, .any, .any, .any, .any, .any], [.ex false [.row 16 (.int .u32) (List.replicate 16 (0 : Int)), .c (.sc (.int .u32 (0 : Int))), .c (.sc (.int .u32 (0 : Int))), .row 4 (.int .u64) (List.replicate 4 (0 : Int))] 28, .ex false [.row 26 (.int .u32) t30] 44], 0⟩) ∧ (True) ∧ (∃ t32 : (List Int) × Int × Int × (List Int) × (Option Int), (Fun cfg 11 [.agg [.row 26 (.int .u32) t30]] [] (regs_of.R t32) [] ∧ True) ∧ (True) ∧ (True ∧ (((True) ∧ True) ∧ ((True) ∧ True) ∧ (.tup [.agg [.row 16 (.int .u32) t32.1, .c (.sc (.int .u32 t32.2.1)), .c (.sc (.int .u32 t32.2.2.1)), .row 4 (.int .u64) t32.2.2.2.1], .one (.err t32.2.2.2.2)] : Tm) = regs_Decode.R r ∧ ([] : List Box) = [])))) ∨ (∃ t33 : (List Int) × (Option Int), Trip cfg (.loop (cpath (Try.f9.body.getD .skip) [1, 1, 1, 0, 1, 0, 0])) ⟨[.v (.one (.fs (.int .u8) a0 false)), .any, .v (.one (.ptr 0 ⟨0, 0, 0, 0⟩)), .any, .v (.one (.ptr 1 ⟨0, 0, 0, 0⟩)), .any, .any, .any, .any, .any, .any, .any, .any, .v (.one (.sc (.int .i64 (0 : Int)))), .any, .any, .any, .any, .any, .any, .any, .any, .any, .any, .any, .any, .any, .any, .any, .any, .any, .any, .any, .any, .any, .any, .any, .any, .any], [.ex false [.row 16 (.int .u32) (List.replicate 16 (0 : Int)), .c (.sc (.int .u32 (0 : Int))), .c (.sc (.int .u32 (0 : Int))), .row 4 (.int .u64) (List.replicate 4 (0 : Int))] 28, .ex false [.row 26 (.int .u32) (List.replicate 26 (0 : Int))] 44], 0⟩ (fun e s => e = .ret ∧ s = ⟨[.any, .any, .v (.one (.ptr 0 ⟨0, 0, 0, 0⟩)), .v (.one (.err t33.2)), .any, .any, .any, .any, .any, .any, .any, .any, .any, .any, .any, .any, .any, .any, .any, .any, .any, .any, .any, .any, .any, .any, .any, .any, .any, .any, .any, .any, .any, .any, .any, .any, .any, .any, .any], [.ex false [.row 16 (.int .u32) (List.replicate 16 (0 : Int)), .c (.sc (.int .u32 (0 : Int))), .c (.sc (.int .u32 (0 : Int))), .row 4 (.int .u64) (List.replicate 4 (0 : Int))] 28, .ex false [.row 26 (.int .u32) t33.1] 44], 0⟩) ∧ (((True) ∧ True) ∧ ((True) ∧ True) ∧ (.tup [.agg [.row 16 (.int .u32) (List.replicate 16 (0 : Int)), .c (.sc (.int .u32 (0 : Int))), .c (.sc (.int .u32 (0 : Int))), .row 4 (.int .u64) (List.replicate 4 (0 : Int))], .one (.err t33.2)] : Tm) = regs_Decode.R r ∧ ([] : List Box) = [])))))))))) (by kernel_rfl) ?_)
  refine ⟨trivial, ?_⟩
  refine ⟨trivial, ?_⟩
  refine ⟨fun b1 => ?_, fun b1 => ?_⟩
  · rw [if_pos (bne_t b1)] at h
    refine ⟨trivial, ?_⟩
    refine ⟨trivial, ?_⟩
    refine ⟨trivial, ?_⟩
    obtain rfl := Option.some.inj h
    exact ⟨⟨trivial, trivial⟩, ⟨trivial, trivial⟩, rfl, rfl⟩
  · rw [if_neg (not_not_intro (bne_f b1))] at h
    refine ⟨trivial, ?_⟩
    refine ⟨trivial, ?_⟩
    refine ⟨trivial, ?_⟩
    obtain ⟨t20, ht20, h⟩ := of_bind h
    refine ⟨⟨trivial, trivial⟩, ?_⟩
    rcases t20 with t30 | t33
    · dsimp only at h
      left
      refine ⟨t30, Trip.loop FUEL (regs_Decode.l0_ok a0 FUEL (List.replicate 26 (0 : Int)) (0 : Int) (.inl t30) ht20), ?_⟩
      refine ⟨trivial, ?_⟩
      obtain ⟨t32, ht32, h⟩ := of_bind h
      refine ⟨t32, ⟨regs_of.fun_ ht32, trivial⟩, ?_⟩
      refine ⟨trivial, ?_⟩
      refine ⟨trivial, ?_⟩
      obtain rfl := Option.some.inj h
      exact ⟨⟨trivial, trivial⟩, ⟨trivial, trivial⟩, rfl, rfl⟩
    · dsimp only at h
      right
      refine ⟨t33, Trip.loop FUEL (regs_Decode.l0_ok a0 FUEL (List.replicate 26 (0 : Int)) (0 : Int) (.inr t33) ht20), ?_⟩
      obtain rfl := Option.some.inj h
      exact ⟨⟨trivial, trivial⟩, ⟨trivial, trivial⟩, rfl, rfl⟩
/-! halter/regs.Set -/
def regs_Set.f (a0 : (List Int)) (a1 : Int) (a2 : Int) (a3 : (List Int)) (a4 : Int) (a5 : Int) : Option ((List Int) × Int × Int × (List Int) × (Option Int)) :=
  if a4 < (0 : Int) then
    some ((List.replicate 16 (0 : Int)), (0 : Int), (0 : Int), (List.replicate 4 (0 : Int)), (some (22 : Int)))
  else
    if a4 ≥ (26 : Int) then
      some ((List.replicate 16 (0 : Int)), (0 : Int), (0 : Int), (List.replicate 4 (0 : Int)), (some (22 : Int)))
    else
      (regs_words.f a0 a1 a2 a3).bind fun t3 =>
      if 0 ≤ a4 ∧ a4 < ((26 : Nat) : Int) then
        if (Int.toNat a4) < 26 then
          (regs_of.f (List.set t3 (Int.toNat a4) a5)).bind fun t4 =>
          some (t4.1, t4.2.1, t4.2.2.1, t4.2.2.2.1, t4.2.2.2.2)
        else none
      else none
def regs_Set.R (r : (List Int) × Int × Int × (List Int) × (Option Int)) : Tm := .tup [.agg [.row 16 (.int .u32) r.1, .c (.sc (.int .u32 r.2.1)), .c (.sc (.int .u32 r.2.2.1)), .row 4 (.int .u64) r.2.2.2.1], .one (.err r.2.2.2.2)]
theorem regs_Set.fun_ {a0 : (List Int)} {a1 : Int} {a2 : Int} {a3 : (List Int)} {a4 : Int} {a5 : Int} {r : (List Int) × Int × Int × (List Int) × (Option Int)} (h : regs_Set.f a0 a1 a2 a3 a4 a5 = some r) : Fun cfg 5 [.agg [.row 16 (.int .u32) a0, .c (.sc (.int .u32 a1)), .c (.sc (.int .u32 a2)), .row 4 (.int .u64) a3], .one (.sc (.int .i64 a4)), .one (.sc (.int .u32 a5))] [] (regs_Set.R r) [] := by
  unfold regs_Set.f at h
  refine fun_of_run cfg_ok (f := 5) (fn := Try.f5) Try.func5 rfl (by kernel_rfl) (rs := [.cell 6 28, .tmp 7]) rfl (nt := 26) rfl (l := fin) (k := (.br (.one true (.one true (.one true (.adj [] (.adj [] (.adj [.drop 0] .nil)))))) (.one false (.one false (.br (.adj [] (.adj [] (.adj [.drop 0] .nil))) (.call true [] ((List Int)) (fun t3 => regs_words.R t3) (fun t3 => (.call true [] ((List Int) × Int × Int × (List Int) × (Option Int)) (fun t4 => regs_of.R t4) (fun t4 => (.adj [] (.adj [.drop 0] .nil))))))))))) (to_goal (q := (True) ∧ (((decide (a4 < (0 : Int))) = false → ((decide (a4 < (0 : Int))) = false ∧ (True) ∧ ((decide (a4 < (0 : Int))) = false ∧ (((decide (a4 ≥ (26 : Int))) = true → (True ∧ (True) ∧ (True ∧ (((True) ∧ True) ∧ ((True) ∧ True) ∧ (.tup [.agg [.row 16 (.int .u32) (List.replicate 16 (0 : Int)), .c (.sc (.int .u32 (0 : Int))), .c (.sc (.int .u32 (0 : Int))), .row 4 (.int .u64) (List.replicate 4 (0 : Int))], .one (.err (some (22 : Int)))] : Tm) = regs_Set.R r ∧ ([] : List Box) = [])))) ∧ ((decide (a4 ≥ (26 : Int))) = false → (True) ∧ (∃ t3 : (List Int), (Fun cfg 10 [.agg [.row 16 (.int .u32) a0, .c (.sc (.int .u32 a1)), .c (.sc (.int .u32 a2)), .row 4 (.int .u64) a3]] [] (regs_words.R t3) [] ∧ True) ∧ (True) ∧ (0 ≤ a4 ∧ a4 < ((26 : Nat) : Int)) ∧ ((Int.toNat a4) < 26) ∧ (True) ∧ (∃ t4 : (List Int) × Int × Int × (List Int) × (Option Int), (Fun cfg 11 [.agg [.row 26 (.int .u32) (List.set t3 (Int.toNat a4) a5)]] [] (regs_of.R t4) [] ∧ True) ∧ (True) ∧ (True ∧ (((True) ∧ True) ∧ ((True) ∧ True) ∧ (.tup [.agg [.row 16 (.int .u32) t4.1, .c (.sc (.int .u32 t4.2.1)), .c (.sc (.int .u32 t4.2.2.1)), .row 4 (.int .u64) t4.2.2.2.1], .one (.err t4.2.2.2.2)] : Tm) = regs_Set.R r ∧ ([] : List Box) = []))))))))) ∧ ((decide (a4 < (0 : Int))) = true → ((decide (a4 < (0 : Int))) = true ∧ ((decide (a4 < (0 : Int))) = true ∧ (true = true ∧ (True ∧ (True) ∧ (True ∧ (((True) ∧ True) ∧ ((True) ∧ True) ∧ (.tup [.agg [.row 16 (.int .u32) (List.replicate 16 (0 : Int)), .c (.sc (.int .u32 (0 : Int))), .c (.sc (.int .u32 (0 : Int))), .row 4 (.int .u64) (List.replicate 4 (0 : Int))], .one (.err (some (22 : Int)))] : Tm) = regs_Set.R r ∧ ([] : List Box) = []))))))))) (by kernel_rfl) ?_)
  refine ⟨trivial, ?_⟩
  refine ⟨fun b1 => ?_, fun b1 => ?_⟩
  · rw [if_neg (of_decide_eq_false b1)] at h
    refine ⟨b1, ?_⟩
    refine ⟨trivial, ?_⟩
    refine ⟨b1, ?_⟩
    refine ⟨fun b2 => ?_, fun b2 => ?_⟩
    · rw [if_pos (of_decide_eq_true b2)] at h
      refine ⟨trivial, ?_⟩
      refine ⟨trivial, ?_⟩
      refine ⟨trivial, ?_⟩
      obtain rfl := Option.some.inj h
      exact ⟨⟨trivial, trivial⟩, ⟨trivial, trivial⟩, rfl, rfl⟩
    · rw [if_neg (of_decide_eq_false b2)] at h
      refine ⟨trivial, ?_⟩
      obtain ⟨t3, ht3, h⟩ := of_bind h
      refine ⟨t3, ⟨regs_words.fun_ ht3, trivial⟩, ?_⟩
      refine ⟨trivial, ?_⟩
      obtain ⟨g6, h⟩ := of_guard h
      refine ⟨g6, ?_⟩
      obtain ⟨g5, h⟩ := of_guard h
      refine ⟨g5, ?_⟩
      refine ⟨trivial, ?_⟩
      obtain ⟨t4, ht4, h⟩ := of_bind h
      refine ⟨t4, ⟨regs_of.fun_ ht4, trivial⟩, ?_⟩
      refine ⟨trivial, ?_⟩
      refine ⟨trivial, ?_⟩
      obtain rfl := Option.some.inj h
      exact ⟨⟨trivial, trivial⟩, ⟨trivial, trivial⟩, rfl, rfl⟩
  · rw [if_pos (of_decide_eq_true b1)] at h
    refine ⟨b1, ?_⟩
    refine ⟨b1, ?_⟩
    refine ⟨rfl, ?_⟩
    refine ⟨trivial, ?_⟩
    refine ⟨trivial, ?_⟩
    refine ⟨trivial, ?_⟩
    obtain rfl := Option.some.inj h
    exact ⟨⟨trivial, trivial⟩, ⟨trivial, trivial⟩, rfl, rfl⟩
/-! halter/regs.Get -/
def regs_Get.f (a0 : (List Int)) (a1 : Int) (a2 : Int) (a3 : (List Int)) (a4 : Int) : Option (Int × (Option Int)) :=
  if a4 < (0 : Int) then
    some ((0 : Int), (some (22 : Int)))
  else
    if a4 ≥ (26 : Int) then
      some ((0 : Int), (some (22 : Int)))
    else
      (regs_words.f a0 a1 a2 a3).bind fun t3 =>
      if 0 ≤ a4 ∧ a4 < ((26 : Nat) : Int) then
        some ((List.getD t3 (Int.toNat a4) (0 : Int)), none)
      else none
def regs_Get.R (r : Int × (Option Int)) : Tm := .tup [.one (.sc (.int .u32 r.1)), .one (.err r.2)]
theorem regs_Get.fun_ {a0 : (List Int)} {a1 : Int} {a2 : Int} {a3 : (List Int)} {a4 : Int} {r : Int × (Option Int)} (h : regs_Get.f a0 a1 a2 a3 a4 = some r) : Fun cfg 6 [.agg [.row 16 (.int .u32) a0, .c (.sc (.int .u32 a1)), .c (.sc (.int .u32 a2)), .row 4 (.int .u64) a3], .one (.sc (.int .i64 a4))] [] (regs_Get.R r) [] := by
  unfold regs_Get.f at h
  refine fun_of_run cfg_ok (f := 6) (fn := Try.f6) Try.func6 rfl (by kernel_rfl) (rs := [.tmp 4, .tmp 5]) rfl (nt := 17) rfl (l := fin) (k := (.br (.one true (.one true (.one true (.adj [] (.adj [] (.adj [.drop 0] .nil)))))) (.one false (.one false (.br (.adj [] (.adj [] (.adj [.drop 0] .nil))) (.call true [] ((List Int)) (fun t3 => regs_words.R t3) (fun t3 => (.adj [] (.adj [.drop 0] .nil))))))))) (to_goal (q := (True) ∧ (((decide (a4 < (0 : Int))) = false → ((decide (a4 < (0 : Int))) = false ∧ (True) ∧ ((decide (a4 < (0 : Int))) = false ∧ (((decide (a4 ≥ (26 : Int))) = true → (True ∧ (True ∧ ((True) ∧ ((True) ∧ True) ∧ (.tup [.one (.sc (.int .u32 (0 : Int))), .one (.err (some (22 : Int)))] : Tm) = regs_Get.R r ∧ ([] : List Box) = [])))) ∧ ((decide (a4 ≥ (26 : Int))) = false → (True) ∧ (∃ t3 : (List Int), (Fun cfg 10 [.agg [.row 16 (.int .u32) a0, .c (.sc (.int .u32 a1)), .c (.sc (.int .u32 a2)), .row 4 (.int .u64) a3]] [] (regs_words.R t3) [] ∧ True) ∧ (0 ≤ a4 ∧ a4 < ((26 : Nat) : Int)) ∧ (True ∧ ((True) ∧ ((True) ∧ True) ∧ (.tup [.one (.sc (.int .u32 (List.getD t3 (Int.toNat a4) (0 : Int)))), .one (.err none)] : Tm) = regs_Get.R r ∧ ([] : List Box) = [])))))))) ∧ ((decide (a4 < (0 : Int))) = true → ((decide (a4 < (0 : Int))) = true ∧ ((decide (a4 < (0 : Int))) = true ∧ (true = true ∧ (True ∧ (True ∧ ((True) ∧ ((True) ∧ True) ∧ (.tup [.one (.sc (.int .u32 (0 : Int))), .one (.err (some (22 : Int)))] : Tm) = regs_Get.R r ∧ ([] : List Box) = []))))))))) (by kernel_rfl) ?_)
  refine ⟨trivial, ?_⟩
  refine ⟨fun b1 => ?_, fun b1 => ?_⟩
  · rw [if_neg (of_decide_eq_false b1)] at h
    refine ⟨b1, ?_⟩
    refine ⟨trivial, ?_⟩
    refine ⟨b1, ?_⟩
    refine ⟨fun b2 => ?_, fun b2 => ?_⟩
    · rw [if_pos (of_decide_eq_true b2)] at h
      refine ⟨trivial, ?_⟩
      refine ⟨trivial, ?_⟩
      obtain rfl := Option.some.inj h
      exact ⟨trivial, ⟨trivial, trivial⟩, rfl, rfl⟩
    · rw [if_neg (of_decide_eq_false b2)] at h
      refine ⟨trivial, ?_⟩
      obtain ⟨t3, ht3, h⟩ := of_bind h
      refine ⟨t3, ⟨regs_words.fun_ ht3, trivial⟩, ?_⟩
      obtain ⟨g4, h⟩ := of_guard h
      refine ⟨g4, ?_⟩
      refine ⟨trivial, ?_⟩
      obtain rfl := Option.some.inj h
      exact ⟨trivial, ⟨trivial, trivial⟩, rfl, rfl⟩
  · rw [if_pos (of_decide_eq_true b1)] at h
    refine ⟨b1, ?_⟩
    refine ⟨b1, ?_⟩
    refine ⟨rfl, ?_⟩
    refine ⟨trivial, ?_⟩
    refine ⟨trivial, ?_⟩
    obtain rfl := Option.some.inj h
    exact ⟨trivial, ⟨trivial, trivial⟩, rfl, rfl⟩
/-! halter/halterlaw10.sure -/
def halterlaw10_sure.f : Option Bool :=
  (regs_Set.f (List.replicate 16 (0 : Int)) (0 : Int) (0 : Int) (List.replicate 4 (0 : Int)) (19 : Int) (5 : Int)).bind fun t1 =>
  (regs_Get.f t1.1 t1.2.1 t1.2.2.1 t1.2.2.2.1 (19 : Int)).bind fun t2 =>
  (regs_Encode.f t1.1 t1.2.1 t1.2.2.1 t1.2.2.2.1).bind fun t3 =>
  if t1.2.2.2.2 = none then
    if t2.2 = none then
      if t3.2 = none then
        if t2.1 = (5 : Int) then
          if (List.getD t1.2.2.2.1 0 (0 : Int)) = (21474836480 : Int) then
            if (((List.length t3.1) : Nat) : Int) = (104 : Int) then
              if 0 ≤ (76 : Int) ∧ (76 : Int) < (((List.length t3.1) : Nat) : Int) then
                some ((List.getD t3.1 76 (0 : Int)) == (5 : Int))
              else none
            else
              some false
          else
            some false
        else
          some false
      else
        some false
    else
      some false
  else
    some false
def halterlaw10_sure.R (r : Bool) : Tm := .v (.one (.sc (.bool r)))
theorem halterlaw10_sure.fun_ {r : Bool} (h : halterlaw10_sure.f = some r) : Fun cfg 7 [] [] (halterlaw10_sure.R r) [] := by
  unfold halterlaw10_sure.f at h
  refine fun_of_run cfg_ok (f := 7) (fn := Try.f7) Try.func7 rfl (by kernel_rfl) (rs := [.tmp 0]) rfl (nt := 53) rfl (l := fin) (k := (.call true [] ((List Int) × Int × Int × (List Int) × (Option Int)) (fun t1 => regs_Set.R t1) (fun t1 => (.call true [] (Int × (Option Int)) (fun t2 => regs_Get.R t2) (fun t2 => (.call true [] ((List Int) × (Option Int)) (fun t3 => regs_Encode.R t3) (fun t3 => (.br (.one true (.one true (.br (.one true (.one true (.br (.one true (.one true (.br (.one true (.one true (.one true (.one true (.br (.one true (.one true (.one true (.br (.one true (.one true (.one true (.one true (.adj [] (.adj [.drop 0] .nil)))))) (.one false (.one false (.one false (.one false (.adj [] (.adj [.drop 0] .nil)))))))))) (.one false (.one false (.one false (.one false (.one false (.one false (.one false (.one false (.adj [] (.adj [.drop 0] .nil))))))))))))))) (.one false (.one false (.one false (.one false (.one false (.one false (.one false (.one false (.one false (.one false (.one false (.one false (.one false (.adj [] (.adj [.drop 0] .nil)))))))))))))))))) (.one false (.one false (.one false (.one false (.one false (.one false (.one false (.one false (.one false (.one false (.one false (.one false (.one false (.one false (.one false (.one false (.adj [] (.adj [.drop 0] .nil))))))))))))))))))))) (.one false (.one false (.one false (.one false (.one false (.one false (.one false (.one false (.one false (.one false (.one false (.one false (.one false (.one false (.one false (.one false (.one false (.one false (.one false (.adj [] (.adj [.drop 0] .nil)))))))))))))))))))))))) (.one false (.one false (.one false (.one false (.one false (.one false (.one false (.one false (.one false (.one false (.one false (.one false (.one false (.one false (.one false (.one false (.one false (.one false (.one false (.one false (.one false (.one false (.adj [] (.adj [.drop 0] .nil)))))))))))))))))))))))))))))))) (to_goal (q := (∃ t1 : (List Int) × Int × Int × (List Int) × (Option Int), (Fun cfg 5 [.agg [.row 16 (.int .u32) (List.replicate 16 (0 : Int)), .c (.sc (.int .u32 (0 : Int))), .c (.sc (.int .u32 (0 : Int))), .row 4 (.int .u64) (List.replicate 4 (0 : Int))], .one (.sc (.int .i64 (19 : Int))), .one (.sc (.int .u32 (5 : Int)))] [] (regs_Set.R t1) [] ∧ True) ∧ (True) ∧ (True) ∧ (∃ t2 : Int × (Option Int), (Fun cfg 6 [.agg [.row 16 (.int .u32) t1.1, .c (.sc (.int .u32 t1.2.1)), .c (.sc (.int .u32 t1.2.2.1)), .row 4 (.int .u64) t1.2.2.2.1], .one (.sc (.int .i64 (19 : Int)))] [] (regs_Get.R t2) [] ∧ True) ∧ (True) ∧ (∃ t3 : (List Int) × (Option Int), (Fun cfg 8 [.agg [.row 16 (.int .u32) t1.1, .c (.sc (.int .u32 t1.2.1)), .c (.sc (.int .u32 t1.2.2.1)), .row 4 (.int .u64) t1.2.2.2.1]] [] (regs_Encode.R t3) [] ∧ True) ∧ (True) ∧ (((Option.isNone t1.2.2.2.2) = true → ((Option.isNone t1.2.2.2.2) = true ∧ (True) ∧ ((Option.isNone t1.2.2.2.2) = true ∧ (((Option.isNone t2.2) = true → ((Option.isNone t2.2) = true ∧ (True) ∧ ((Option.isNone t2.2) = true ∧ (((Option.isNone t3.2) = true → ((Option.isNone t3.2) = true ∧ (True) ∧ ((Option.isNone t3.2) = true ∧ (((t2.1 == (5 : Int)) = true → ((t2.1 == (5 : Int)) = true ∧ (0 ≤ (0 : Int) ∧ (0 : Int) < ((4 : Nat) : Int)) ∧ ((t2.1 == (5 : Int)) = true ∧ (0 < 4) ∧ ((t2.1 == (5 : Int)) = true ∧ (True) ∧ ((t2.1 == (5 : Int)) = true ∧ ((((List.getD t1.2.2.2.1 0 (0 : Int)) == (21474836480 : Int)) = true → (((List.getD t1.2.2.2.1 0 (0 : Int)) == (21474836480 : Int)) = true ∧ (True) ∧ (((List.getD t1.2.2.2.1 0 (0 : Int)) == (21474836480 : Int)) = true ∧ (True) ∧ (((List.getD t1.2.2.2.1 0 (0 : Int)) == (21474836480 : Int)) = true ∧ ((((((List.length t3.1) : Nat) : Int) == (104 : Int)) = true → (((((List.length t3.1) : Nat) : Int) == (104 : Int)) = true ∧ (0 ≤ (76 : Int) ∧ (76 : Int) < (((List.length t3.1) : Nat) : Int)) ∧ (((((List.length t3.1) : Nat) : Int) == (104 : Int)) = true ∧ (True) ∧ (((((List.length t3.1) : Nat) : Int) == (104 : Int)) = true ∧ (True) ∧ (((((List.length t3.1) : Nat) : Int) == (104 : Int)) = true ∧ (True ∧ ((True) ∧ ((True) ∧ True) ∧ (.v (.one (.sc (.bool ((List.getD t3.1 76 (0 : Int)) == (5 : Int))))) : Tm) = halterlaw10_sure.R r ∧ ([] : List Box) = []))))))) ∧ (((((List.length t3.1) : Nat) : Int) == (104 : Int)) = false → (((((List.length t3.1) : Nat) : Int) == (104 : Int)) = false ∧ (((((List.length t3.1) : Nat) : Int) == (104 : Int)) = false ∧ (((((List.length t3.1) : Nat) : Int) == (104 : Int)) = false ∧ (((((List.length t3.1) : Nat) : Int) == (104 : Int)) = false ∧ (True ∧ ((True) ∧ ((True) ∧ True) ∧ (.v (.one (.sc (.bool false))) : Tm) = halterlaw10_sure.R r ∧ ([] : List Box) = [])))))))))))) ∧ (((List.getD t1.2.2.2.1 0 (0 : Int)) == (21474836480 : Int)) = false → (((List.getD t1.2.2.2.1 0 (0 : Int)) == (21474836480 : Int)) = false ∧ (((List.getD t1.2.2.2.1 0 (0 : Int)) == (21474836480 : Int)) = false ∧ (((List.getD t1.2.2.2.1 0 (0 : Int)) == (21474836480 : Int)) = false ∧ (false = false ∧ (false = false ∧ (false = false ∧ (false = false ∧ (false = false ∧ (True ∧ ((True) ∧ ((True) ∧ True) ∧ (.v (.one (.sc (.bool false))) : Tm) = halterlaw10_sure.R r ∧ ([] : List Box) = []))))))))))))))))) ∧ ((t2.1 == (5 : Int)) = false → ((t2.1 == (5 : Int)) = false ∧ ((t2.1 == (5 : Int)) = false ∧ ((t2.1 == (5 : Int)) = false ∧ ((t2.1 == (5 : Int)) = false ∧ (false = false ∧ (false = false ∧ (false = false ∧ (false = false ∧ (false = false ∧ (false = false ∧ (false = false ∧ (false = false ∧ (false = false ∧ (True ∧ ((True) ∧ ((True) ∧ True) ∧ (.v (.one (.sc (.bool false))) : Tm) = halterlaw10_sure.R r ∧ ([] : List Box) = [])))))))))))))))))))) ∧ ((Option.isNone t3.2) = false → ((Option.isNone t3.2) = false ∧ ((Option.isNone t3.2) = false ∧ (false = false ∧ (false = false ∧ (false = false ∧ (false = false ∧ (false = false ∧ (false = false ∧ (false = false ∧ (false = false ∧ (false = false ∧ (false = false ∧ (false = false ∧ (false = false ∧ (false = false ∧ (false = false ∧ (True ∧ ((True) ∧ ((True) ∧ True) ∧ (.v (.one (.sc (.bool false))) : Tm) = halterlaw10_sure.R r ∧ ([] : List Box) = []))))))))))))))))))))))) ∧ ((Option.isNone t2.2) = false → ((Option.isNone t2.2) = false ∧ ((Option.isNone t2.2) = false ∧ (false = false ∧ (false = false ∧ (false = false ∧ (false = false ∧ (false = false ∧ (false = false ∧ (false = false ∧ (false = false ∧ (false = false ∧ (false = false ∧ (false = false ∧ (false = false ∧ (false = false ∧ (false = false ∧ (false = false ∧ (false = false ∧ (false = false ∧ (True ∧ ((True) ∧ ((True) ∧ True) ∧ (.v (.one (.sc (.bool false))) : Tm) = halterlaw10_sure.R r ∧ ([] : List Box) = [])))))))))))))))))))))))))) ∧ ((Option.isNone t1.2.2.2.2) = false → ((Option.isNone t1.2.2.2.2) = false ∧ ((Option.isNone t1.2.2.2.2) = false ∧ (false = false ∧ (false = false ∧ (false = false ∧ (false = false ∧ (false = false ∧ (false = false ∧ (false = false ∧ (false = false ∧ (false = false ∧ (false = false ∧ (false = false ∧ (false = false ∧ (false = false ∧ (false = false ∧ (false = false ∧ (false = false ∧ (false = false ∧ (false = false ∧ (false = false ∧ (false = false ∧ (True ∧ ((True) ∧ ((True) ∧ True) ∧ (.v (.one (.sc (.bool false))) : Tm) = halterlaw10_sure.R r ∧ ([] : List Box) = [])))))))))))))))))))))))))))))) (by kernel_rfl) ?_)
  obtain ⟨t1, ht1, h⟩ := of_bind h
  refine ⟨t1, ⟨regs_Set.fun_ ht1, trivial⟩, ?_⟩
  refine ⟨trivial, ?_⟩
  refine ⟨trivial, ?_⟩
  obtain ⟨t2, ht2, h⟩ := of_bind h
  refine ⟨t2, ⟨regs_Get.fun_ ht2, trivial⟩, ?_⟩
  refine ⟨trivial, ?_⟩
  obtain ⟨t3, ht3, h⟩ := of_bind h
  refine ⟨t3, ⟨regs_Encode.fun_ ht3, trivial⟩, ?_⟩
  refine ⟨trivial, ?_⟩
  refine ⟨fun b4 => ?_, fun b4 => ?_⟩
  · rw [if_pos (none_t b4)] at h
    refine ⟨b4, ?_⟩
    refine ⟨trivial, ?_⟩
    refine ⟨b4, ?_⟩
    refine ⟨fun b5 => ?_, fun b5 => ?_⟩
    · rw [if_pos (none_t b5)] at h
      refine ⟨b5, ?_⟩
      refine ⟨trivial, ?_⟩
      refine ⟨b5, ?_⟩
      refine ⟨fun b6 => ?_, fun b6 => ?_⟩
      · rw [if_pos (none_t b6)] at h
        refine ⟨b6, ?_⟩
        refine ⟨trivial, ?_⟩
        refine ⟨b6, ?_⟩
        refine ⟨fun b7 => ?_, fun b7 => ?_⟩
        · rw [if_pos (beq_t b7)] at h
          refine ⟨b7, ?_⟩
          refine ⟨(by decide), ?_⟩
          refine ⟨b7, ?_⟩
          refine ⟨(by decide), ?_⟩
          refine ⟨b7, ?_⟩
          refine ⟨trivial, ?_⟩
          refine ⟨b7, ?_⟩
          refine ⟨fun b8 => ?_, fun b8 => ?_⟩
          · rw [if_pos (beq_t b8)] at h
            refine ⟨b8, ?_⟩
            refine ⟨trivial, ?_⟩
            refine ⟨b8, ?_⟩
            refine ⟨trivial, ?_⟩
            refine ⟨b8, ?_⟩
            refine ⟨fun b9 => ?_, fun b9 => ?_⟩
            · rw [if_pos (beq_t b9)] at h
              refine ⟨b9, ?_⟩
              obtain ⟨g10, h⟩ := of_guard h
              refine ⟨g10, ?_⟩
              refine ⟨b9, ?_⟩
              refine ⟨trivial, ?_⟩
              refine ⟨b9, ?_⟩
              refine ⟨trivial, ?_⟩
              refine ⟨b9, ?_⟩
              refine ⟨trivial, ?_⟩
              obtain rfl := Option.some.inj h
              exact ⟨trivial, ⟨trivial, trivial⟩, rfl, rfl⟩
            · rw [if_neg (beq_f b9)] at h
              refine ⟨b9, ?_⟩
              refine ⟨b9, ?_⟩
              refine ⟨b9, ?_⟩
              refine ⟨b9, ?_⟩
              refine ⟨trivial, ?_⟩
              obtain rfl := Option.some.inj h
              exact ⟨trivial, ⟨trivial, trivial⟩, rfl, rfl⟩
          · rw [if_neg (beq_f b8)] at h
            refine ⟨b8, ?_⟩
            refine ⟨b8, ?_⟩
            refine ⟨b8, ?_⟩
            refine ⟨rfl, ?_⟩
            refine ⟨rfl, ?_⟩
            refine ⟨rfl, ?_⟩
            refine ⟨rfl, ?_⟩
            refine ⟨rfl, ?_⟩
            refine ⟨trivial, ?_⟩
            obtain rfl := Option.some.inj h
            exact ⟨trivial, ⟨trivial, trivial⟩, rfl, rfl⟩
        · rw [if_neg (beq_f b7)] at h
          refine ⟨b7, ?_⟩
          refine ⟨b7, ?_⟩
          refine ⟨b7, ?_⟩
          refine ⟨b7, ?_⟩
          refine ⟨rfl, ?_⟩
          refine ⟨rfl, ?_⟩
          refine ⟨rfl, ?_⟩
          refine ⟨rfl, ?_⟩
          refine ⟨rfl, ?_⟩
          refine ⟨rfl, ?_⟩
          refine ⟨rfl, ?_⟩
          refine ⟨rfl, ?_⟩
          refine ⟨rfl, ?_⟩
          refine ⟨trivial, ?_⟩
          obtain rfl := Option.some.inj h
          exact ⟨trivial, ⟨trivial, trivial⟩, rfl, rfl⟩
      · rw [if_neg (none_f b6)] at h
        refine ⟨b6, ?_⟩
        refine ⟨b6, ?_⟩
        refine ⟨rfl, ?_⟩
        refine ⟨rfl, ?_⟩
        refine ⟨rfl, ?_⟩
        refine ⟨rfl, ?_⟩
        refine ⟨rfl, ?_⟩
        refine ⟨rfl, ?_⟩
        refine ⟨rfl, ?_⟩
        refine ⟨rfl, ?_⟩
        refine ⟨rfl, ?_⟩
        refine ⟨rfl, ?_⟩
        refine ⟨rfl, ?_⟩
        refine ⟨rfl, ?_⟩
        refine ⟨rfl, ?_⟩
        refine ⟨rfl, ?_⟩
        refine ⟨trivial, ?_⟩
        obtain rfl := Option.some.inj h
        exact ⟨trivial, ⟨trivial, trivial⟩, rfl, rfl⟩
    · rw [if_neg (none_f b5)] at h
      refine ⟨b5, ?_⟩
      refine ⟨b5, ?_⟩
      refine ⟨rfl, ?_⟩
      refine ⟨rfl, ?_⟩
      refine ⟨rfl, ?_⟩
      refine ⟨rfl, ?_⟩
      refine ⟨rfl, ?_⟩
      refine ⟨rfl, ?_⟩
      refine ⟨rfl, ?_⟩
      refine ⟨rfl, ?_⟩
      refine ⟨rfl, ?_⟩
      refine ⟨rfl, ?_⟩
      refine ⟨rfl, ?_⟩
      refine ⟨rfl, ?_⟩
      refine ⟨rfl, ?_⟩
      refine ⟨rfl, ?_⟩
      refine ⟨rfl, ?_⟩
      refine ⟨rfl, ?_⟩
      refine ⟨rfl, ?_⟩
      refine ⟨trivial, ?_⟩
      obtain rfl := Option.some.inj h
      exact ⟨trivial, ⟨trivial, trivial⟩, rfl, rfl⟩
  · rw [if_neg (none_f b4)] at h
    refine ⟨b4, ?_⟩
    refine ⟨b4, ?_⟩
    refine ⟨rfl, ?_⟩
    refine ⟨rfl, ?_⟩
    refine ⟨rfl, ?_⟩
    refine ⟨rfl, ?_⟩
    refine ⟨rfl, ?_⟩
    refine ⟨rfl, ?_⟩
    refine ⟨rfl, ?_⟩
    refine ⟨rfl, ?_⟩
    refine ⟨rfl, ?_⟩
    refine ⟨rfl, ?_⟩
    refine ⟨rfl, ?_⟩
    refine ⟨rfl, ?_⟩
    refine ⟨rfl, ?_⟩
    refine ⟨rfl, ?_⟩
    refine ⟨rfl, ?_⟩
    refine ⟨rfl, ?_⟩
    refine ⟨rfl, ?_⟩
    refine ⟨rfl, ?_⟩
    refine ⟨rfl, ?_⟩
    refine ⟨rfl, ?_⟩
    refine ⟨trivial, ?_⟩
    obtain rfl := Option.some.inj h
    exact ⟨trivial, ⟨trivial, trivial⟩, rfl, rfl⟩
/-! halter/halterlaw10.RegsBack -/
def halterlaw10_RegsBack.l0 (t2 : (List Int) × Int × Int × (List Int) × (Option Int)) (t8 : (List Int) × Int × Int × (List Int) × (Option Int)) (a0 : (List Int)) (a1 : Int) (a2 : Int) (a3 : (List Int)) (a4 : Int) (a5 : Int) : Nat → Int → Option ((Unit) ⊕ (Unit))
  | 0, _ => none
  | n + 1, x10 =>
    if x10 < (26 : Int) then
      (regs_Get.f a0 a1 (Int.tmod a2 (32 : Int)) a3 x10).bind fun t24 =>
      (regs_Get.f t8.1 t8.2.1 t8.2.2.1 t8.2.2.2.1 x10).bind fun t25 =>
      if ¬ (t24.2 = none) then
        some (.inr ())
      else
        if ¬ (t25.2 = none) then
          some (.inr ())
        else
          if x10 = (IntKind.wrap .i64 ((Int.tmod (IntKind.wrap .u64 (a4)) (26 : Int)))) then
            if ¬ t25.1 = (Int.tmod a5 (32 : Int)) then
              some (.inr ())
            else
              if ¬ x10 = (IntKind.wrap .i64 ((Int.tmod (IntKind.wrap .u64 (a4)) (26 : Int)))) then
                if ¬ t25.1 = t24.1 then
                  some (.inr ())
                else
                  halterlaw10_RegsBack.l0 t2 t8 a0 a1 a2 a3 a4 a5 n (IntKind.wrap .i64 (x10 + (1 : Int)))
              else
                halterlaw10_RegsBack.l0 t2 t8 a0 a1 a2 a3 a4 a5 n (IntKind.wrap .i64 (x10 + (1 : Int)))
          else
            if ¬ x10 = (IntKind.wrap .i64 ((Int.tmod (IntKind.wrap .u64 (a4)) (26 : Int)))) then
              if ¬ t25.1 = t24.1 then
                some (.inr ())
              else
                halterlaw10_RegsBack.l0 t2 t8 a0 a1 a2 a3 a4 a5 n (IntKind.wrap .i64 (x10 + (1 : Int)))
            else
              halterlaw10_RegsBack.l0 t2 t8 a0 a1 a2 a3 a4 a5 n (IntKind.wrap .i64 (x10 + (1 : Int)))
    else
      some (.inl ())
def halterlaw10_RegsBack.l0_S (t2 : (List Int) × Int × Int × (List Int) × (Option Int)) (t8 : (List Int) × Int × Int × (List Int) × (Option Int)) (a0 : (List Int)) (a1 : Int) (a2 : Int) (a3 : (List Int)) (a4 : Int) (a5 : Int) (x10 : Int) : St := ⟨[.any, .any, .v (.one (.sc (.int .u32 (Int.tmod a5 (32 : Int))))), .any, .any, .any, .any, .v (.one (.ptr 1 ⟨0, 0, 0, 0⟩)), .any, .any, .any, .any, .v (.one (.sc (.int .i64 (IntKind.wrap .i64 ((Int.tmod (IntKind.wrap .u64 (a4)) (26 : Int))))))), .v (.one (.ptr 3 ⟨0, 0, 0, 0⟩)), .any, .v (.one (.sc (.int .i64 x10))), .any, .any, .any, .any, .any, .any, .any, .any, .any, .any, .any, .any, .any, .any, .any, .any, .any, .any, .any, .any, .any, .any, .any, .any, .any, .any, .any, .any, .any, .any, .any, .any, .any, .any, .any, .any, .any, .any, .any, .any, .any, .any, .any, .any, .any, .any, .any, .any, .any, .any, .any, .any, .any, .any, .any, .any, .any, .any, .any, .any, .any, .any, .any, .any, .any, .any, .any, .any, .any, .any, .any, .any, .any, .any, .any, .any, .any, .any, .any, .any, .any, .any, .any, .any, .any, .any, .any, .any, .any, .any, .any, .any, .any, .any, .any], [.ex false [.row 16 (.int .u32) a0, .c (.sc (.int .u32 a1)), .c (.sc (.int .u32 a2)), .row 4 (.int .u64) a3] 27, .ex false [.row 16 (.int .u32) a0, .c (.sc (.int .u32 a1)), .c (.sc (.int .u32 (Int.tmod a2 (32 : Int)))), .row 4 (.int .u64) a3] 28, .ex false [.row 16 (.int .u32) t2.1, .c (.sc (.int .u32 t2.2.1)), .c (.sc (.int .u32 t2.2.2.1)), .row 4 (.int .u64) t2.2.2.2.1] 28, .ex false [.row 16 (.int .u32) t8.1, .c (.sc (.int .u32 t8.2.1)), .c (.sc (.int .u32 t8.2.2.1)), .row 4 (.int .u64) t8.2.2.2.1] 28], 0⟩
def halterlaw10_RegsBack.l0_Q (t2 : (List Int) × Int × Int × (List Int) × (Option Int)) (t8 : (List Int) × Int × Int × (List Int) × (Option Int)) (a0 : (List Int)) (a1 : Int) (a2 : Int) (a3 : (List Int)) (a4 : Int) (a5 : Int) : (Unit) ⊕ (Unit) → Exit → St → Prop
  | .inl t => fun e s => e = (.exit 0) ∧ s = ⟨[.any, .any, .any, .any, .any, .any, .any, .any, .any, .any, .any, .any, .any, .any, .any, .any, .any, .any, .any, .any, .any, .any, .any, .any, .any, .any, .any, .any, .any, .any, .any, .any, .any, .any, .any, .any, .any, .any, .any, .any, .any, .any, .any, .any, .any, .any, .any, .any, .any, .any, .any, .any, .any, .any, .any, .any, .any, .any, .any, .any, .any, .any, .any, .any, .any, .any, .any, .any, .any, .any, .any, .any, .any, .any, .any, .any, .any, .any, .any, .any, .any, .any, .any, .any, .any, .any, .any, .any, .any, .any, .any, .any, .any, .any, .any, .any, .any, .any, .any, .any, .any, .any, .any, .any, .any, .any, .any, .any, .any, .any, .any], [.ex false [.row 16 (.int .u32) a0, .c (.sc (.int .u32 a1)), .c (.sc (.int .u32 a2)), .row 4 (.int .u64) a3] 27, .ex false [.row 16 (.int .u32) a0, .c (.sc (.int .u32 a1)), .c (.sc (.int .u32 (Int.tmod a2 (32 : Int)))), .row 4 (.int .u64) a3] 28, .ex false [.row 16 (.int .u32) t2.1, .c (.sc (.int .u32 t2.2.1)), .c (.sc (.int .u32 t2.2.2.1)), .row 4 (.int .u64) t2.2.2.2.1] 28, .ex false [.row 16 (.int .u32) t8.1, .c (.sc (.int .u32 t8.2.1)), .c (.sc (.int .u32 t8.2.2.1)), .row 4 (.int .u64) t8.2.2.2.1] 28], 0⟩
  | .inr t => fun e s => e = .ret ∧ s = ⟨[.any, .any, .any, .any, .any, .any, .v (.one (.sc (.bool false))), .any, .any, .any, .any, .any, .any, .any, .any, .any, .any, .any, .any, .any, .any, .any, .any, .any, .any, .any, .any, .any, .any, .any, .any, .any, .any, .any, .any, .any, .any, .any, .any, .any, .any, .any, .any, .any, .any, .any, .any, .any, .any, .any, .any, .any, .any, .any, .any, .any, .any, .any, .any, .any, .any, .any, .any, .any, .any, .any, .any, .any, .any, .any, .any, .any, .any, .any, .any, .any, .any, .any, .any, .any, .any, .any, .any, .any, .any, .any, .any, .any, .any, .any, .any, .any, .any, .any, .any, .any, .any, .any, .any, .any, .any, .any, .any, .any, .any, .any, .any, .any, .any, .any, .any], [.ex false [.row 16 (.int .u32) a0, .c (.sc (.int .u32 a1)), .c (.sc (.int .u32 a2)), .row 4 (.int .u64) a3] 27, .ex false [.row 16 (.int .u32) a0, .c (.sc (.int .u32 a1)), .c (.sc (.int .u32 (Int.tmod a2 (32 : Int)))), .row 4 (.int .u64) a3] 28, .ex false [.row 16 (.int .u32) t2.1, .c (.sc (.int .u32 t2.2.1)), .c (.sc (.int .u32 t2.2.2.1)), .row 4 (.int .u64) t2.2.2.2.1] 28, .ex false [.row 16 (.int .u32) t8.1, .c (.sc (.int .u32 t8.2.1)), .c (.sc (.int .u32 t8.2.2.1)), .row 4 (.int .u64) t8.2.2.2.1] 28], 0⟩
theorem halterlaw10_RegsBack.l0_ok (t2 : (List Int) × Int × Int × (List Int) × (Option Int)) (t8 : (List Int) × Int × Int × (List Int) × (Option Int)) (a0 : (List Int)) (a1 : Int) (a2 : Int) (a3 : (List Int)) (a4 : Int) (a5 : Int) : ∀ (n : Nat) (x10 : Int) (r : (Unit) ⊕ (Unit)), halterlaw10_RegsBack.l0 t2 t8 a0 a1 a2 a3 a4 a5 n x10 = some r → TripN cfg (cpath (Try.f4.body.getD .skip) [1, 1, 1, 1, 1, 1, 1, 1, 1, 1, 0, 1, 0, 0]) n (halterlaw10_RegsBack.l0_S t2 t8 a0 a1 a2 a3 a4 a5 x10) (halterlaw10_RegsBack.l0_Q t2 t8 a0 a1 a2 a3 a4 a5 r)
  | 0, _, r, h => by cases h
  | n + 1, x10, r, h => by
    rw [halterlaw10_RegsBack.l0] at h
    refine TripN.of_run cfg_ok (k := (.br (.call true [] (Int × (Option Int)) (fun t24 => regs_Get.R t24) (fun t24 => (.call true [] (Int × (Option Int)) (fun t25 => regs_Get.R t25) (fun t25 => (.br (.one true (.one true (.one true (.one true (.one true (.one true (.one true (.one true (.one true (.one true (.one true (.one true (.one true (.one true (.one true (.adj [] (.adj [.keep [6], .drop 4] .nil))))))))))))))))) (.one false (.one false (.br (.one true (.one true (.one true (.one true (.one true (.one true (.one true (.one true (.one true (.one true (.one true (.one true (.adj [] (.adj [.keep [6], .drop 4] .nil)))))))))))))) (.one false (.one false (.one false (.br (.one true (.one true (.one false (.one true (.one false (.br (.one true (.one true (.one true (.one true (.one true (.one true (.adj [] (.adj [.keep [6], .drop 4] .nil)))))))) (.one false (.one false (.one false (.br (.one true (.one true (.one false (.one true (.one false (.br (.adj [] (.adj [.keep [6], .drop 4] .nil)) (.adj [] (.adj [] (.adj [.keep [2, 7, 12, 13, 15], .drop 4] .nil))))))))) (.one false (.one false (.one false (.one false (.one false (.one false (.adj [] (.adj [] (.adj [.keep [2, 7, 12, 13, 15], .drop 4] .nil))))))))))))))))))) (.one false (.one false (.one false (.one false (.one false (.one false (.one false (.one false (.one false (.br (.one true (.one true (.one false (.one true (.one false (.br (.adj [] (.adj [.keep [6], .drop 4] .nil)) (.adj [] (.adj [] (.adj [.keep [2, 7, 12, 13, 15], .drop 4] .nil))))))))) (.one false (.one false (.one false (.one false (.one false (.one false (.adj [] (.adj [] (.adj [.keep [2, 7, 12, 13, 15], .drop 4] .nil))))))))))))))))))))))))))))))) (.adj [.keep [], .drop 4] .nil))) (to_goal (q := (True) ∧ (((decide (x10 < (26 : Int))) = true → (True) ∧ (∃ t24 : Int × (Option Int), (Fun cfg 6 [.agg [.row 16 (.int .u32) a0, .c (.sc (.int .u32 a1)), .c (.sc (.int .u32 (Int.tmod a2 (32 : Int)))), .row 4 (.int .u64) a3], .one (.sc (.int .i64 x10))] [] (regs_Get.R t24) [] ∧ True) ∧ (True) ∧ (∃ t25 : Int × (Option Int), (Fun cfg 6 [.agg [.row 16 (.int .u32) t8.1, .c (.sc (.int .u32 t8.2.1)), .c (.sc (.int .u32 t8.2.2.1)), .row 4 (.int .u64) t8.2.2.2.1], .one (.sc (.int .i64 x10))] [] (regs_Get.R t25) [] ∧ True) ∧ (True) ∧ (((!(Option.isNone t24.2)) = false → ((!(Option.isNone t24.2)) = false ∧ (True) ∧ ((!(Option.isNone t24.2)) = false ∧ (((!(Option.isNone t25.2)) = false → ((!(Option.isNone t25.2)) = false ∧ ((!(Option.isNone t25.2)) = false ∧ (True) ∧ ((!(Option.isNone t25.2)) = false ∧ (((x10 == (IntKind.wrap .i64 ((Int.tmod (IntKind.wrap .u64 (a4)) (26 : Int))))) = true → ((x10 == (IntKind.wrap .i64 ((Int.tmod (IntKind.wrap .u64 (a4)) (26 : Int))))) = true ∧ ((x10 == (IntKind.wrap .i64 ((Int.tmod (IntKind.wrap .u64 (a4)) (26 : Int))))) = true ∧ (True) ∧ ((!(Option.isNone t25.2)) = false ∧ ((x10 == (IntKind.wrap .i64 ((Int.tmod (IntKind.wrap .u64 (a4)) (26 : Int))))) = true ∧ ((!(Option.isNone t25.2)) = false ∧ (((t25.1 != (Int.tmod a5 (32 : Int))) = false → ((t25.1 != (Int.tmod a5 (32 : Int))) = false ∧ ((t25.1 != (Int.tmod a5 (32 : Int))) = false ∧ (True) ∧ ((t25.1 != (Int.tmod a5 (32 : Int))) = false ∧ (((x10 != (IntKind.wrap .i64 ((Int.tmod (IntKind.wrap .u64 (a4)) (26 : Int))))) = true → ((x10 != (IntKind.wrap .i64 ((Int.tmod (IntKind.wrap .u64 (a4)) (26 : Int))))) = true ∧ ((x10 != (IntKind.wrap .i64 ((Int.tmod (IntKind.wrap .u64 (a4)) (26 : Int))))) = true ∧ (True) ∧ ((t25.1 != (Int.tmod a5 (32 : Int))) = false ∧ ((x10 != (IntKind.wrap .i64 ((Int.tmod (IntKind.wrap .u64 (a4)) (26 : Int))))) = true ∧ ((t25.1 != (Int.tmod a5 (32 : Int))) = false ∧ (((t25.1 != t24.1) = true → (True ∧ (((True) ∧ (True) ∧ True) ∧ halterlaw10_RegsBack.l0_Q t2 t8 a0 a1 a2 a3 a4 a5 r .ret ⟨[.any, .any, .any, .any, .any, .any, .v (.one (.sc (.bool false))), .any, .any, .any, .any, .any, .any, .any, .any, .any, .any, .any, .any, .any, .any, .any, .any, .any, .any, .any, .any, .any, .any, .any, .any, .any, .any, .any, .any, .any, .any, .any, .any, .any, .any, .any, .any, .any, .any, .any, .any, .any, .any, .any, .any, .any, .any, .any, .any, .any, .any, .any, .any, .any, .any, .any, .any, .any, .any, .any, .any, .any, .any, .any, .any, .any, .any, .any, .any, .any, .any, .any, .any, .any, .any, .any, .any, .any, .any, .any, .any, .any, .any, .any, .any, .any, .any, .any, .any, .any, .any, .any, .any, .any, .any, .any, .any, .any, .any, .any, .any, .any, .any, .any, .any], [.ex false [.row 16 (.int .u32) a0, .c (.sc (.int .u32 a1)), .c (.sc (.int .u32 a2)), .row 4 (.int .u64) a3] 27, .ex false [.row 16 (.int .u32) a0, .c (.sc (.int .u32 a1)), .c (.sc (.int .u32 (Int.tmod a2 (32 : Int)))), .row 4 (.int .u64) a3] 28, .ex false [.row 16 (.int .u32) t2.1, .c (.sc (.int .u32 t2.2.1)), .c (.sc (.int .u32 t2.2.2.1)), .row 4 (.int .u64) t2.2.2.2.1] 28, .ex false [.row 16 (.int .u32) t8.1, .c (.sc (.int .u32 t8.2.1)), .c (.sc (.int .u32 t8.2.2.1)), .row 4 (.int .u64) t8.2.2.2.1] 28], 0⟩))) ∧ ((t25.1 != t24.1) = false → (True ∧ (True ∧ (True) ∧ (((True) ∧ (True) ∧ True) ∧ TripN cfg (cpath (Try.f4.body.getD .skip) [1, 1, 1, 1, 1, 1, 1, 1, 1, 1, 0, 1, 0, 0]) n (halterlaw10_RegsBack.l0_S t2 t8 a0 a1 a2 a3 a4 a5 (IntKind.wrap .i64 (x10 + (1 : Int)))) (halterlaw10_RegsBack.l0_Q t2 t8 a0 a1 a2 a3 a4 a5 r)))))))))))) ∧ ((x10 != (IntKind.wrap .i64 ((Int.tmod (IntKind.wrap .u64 (a4)) (26 : Int))))) = false → ((x10 != (IntKind.wrap .i64 ((Int.tmod (IntKind.wrap .u64 (a4)) (26 : Int))))) = false ∧ ((x10 != (IntKind.wrap .i64 ((Int.tmod (IntKind.wrap .u64 (a4)) (26 : Int))))) = false ∧ ((t25.1 != (Int.tmod a5 (32 : Int))) = false ∧ ((x10 != (IntKind.wrap .i64 ((Int.tmod (IntKind.wrap .u64 (a4)) (26 : Int))))) = false ∧ ((t25.1 != (Int.tmod a5 (32 : Int))) = false ∧ (false = false ∧ (True ∧ (True ∧ (True) ∧ (((True) ∧ (True) ∧ True) ∧ TripN cfg (cpath (Try.f4.body.getD .skip) [1, 1, 1, 1, 1, 1, 1, 1, 1, 1, 0, 1, 0, 0]) n (halterlaw10_RegsBack.l0_S t2 t8 a0 a1 a2 a3 a4 a5 (IntKind.wrap .i64 (x10 + (1 : Int)))) (halterlaw10_RegsBack.l0_Q t2 t8 a0 a1 a2 a3 a4 a5 r)))))))))))))))) ∧ ((t25.1 != (Int.tmod a5 (32 : Int))) = true → ((t25.1 != (Int.tmod a5 (32 : Int))) = true ∧ ((t25.1 != (Int.tmod a5 (32 : Int))) = true ∧ ((t25.1 != (Int.tmod a5 (32 : Int))) = true ∧ ((t25.1 != (Int.tmod a5 (32 : Int))) = true ∧ ((t25.1 != (Int.tmod a5 (32 : Int))) = true ∧ (true = true ∧ (True ∧ (((True) ∧ (True) ∧ True) ∧ halterlaw10_RegsBack.l0_Q t2 t8 a0 a1 a2 a3 a4 a5 r .ret ⟨[.any, .any, .any, .any, .any, .any, .v (.one (.sc (.bool false))), .any, .any, .any, .any, .any, .any, .any, .any, .any, .any, .any, .any, .any, .any, .any, .any, .any, .any, .any, .any, .any, .any, .any, .any, .any, .any, .any, .any, .any, .any, .any, .any, .any, .any, .any, .any, .any, .any, .any, .any, .any, .any, .any, .any, .any, .any, .any, .any, .any, .any, .any, .any, .any, .any, .any, .any, .any, .any, .any, .any, .any, .any, .any, .any, .any, .any, .any, .any, .any, .any, .any, .any, .any, .any, .any, .any, .any, .any, .any, .any, .any, .any, .any, .any, .any, .any, .any, .any, .any, .any, .any, .any, .any, .any, .any, .any, .any, .any, .any, .any, .any, .any, .any, .any], [.ex false [.row 16 (.int .u32) a0, .c (.sc (.int .u32 a1)), .c (.sc (.int .u32 a2)), .row 4 (.int .u64) a3] 27, .ex false [.row 16 (.int .u32) a0, .c (.sc (.int .u32 a1)), .c (.sc (.int .u32 (Int.tmod a2 (32 : Int)))), .row 4 (.int .u64) a3] 28, .ex false [.row 16 (.int .u32) t2.1, .c (.sc (.int .u32 t2.2.1)), .c (.sc (.int .u32 t2.2.2.1)), .row 4 (.int .u64) t2.2.2.2.1] 28, .ex false [.row 16 (.int .u32) t8.1, .c (.sc (.int .u32 t8.2.1)), .c (.sc (.int .u32 t8.2.2.1)), .row 4 (.int .u64) t8.2.2.2.1] 28], 0⟩)))))))))))))))) ∧ ((x10 == (IntKind.wrap .i64 ((Int.tmod (IntKind.wrap .u64 (a4)) (26 : Int))))) = false → ((x10 == (IntKind.wrap .i64 ((Int.tmod (IntKind.wrap .u64 (a4)) (26 : Int))))) = false ∧ ((x10 == (IntKind.wrap .i64 ((Int.tmod (IntKind.wrap .u64 (a4)) (26 : Int))))) = false ∧ ((!(Option.isNone t25.2)) = false ∧ ((x10 == (IntKind.wrap .i64 ((Int.tmod (IntKind.wrap .u64 (a4)) (26 : Int))))) = false ∧ ((!(Option.isNone t25.2)) = false ∧ (false = false ∧ (false = false ∧ (false = false ∧ (True) ∧ (false = false ∧ (((x10 != (IntKind.wrap .i64 ((Int.tmod (IntKind.wrap .u64 (a4)) (26 : Int))))) = true → ((x10 != (IntKind.wrap .i64 ((Int.tmod (IntKind.wrap .u64 (a4)) (26 : Int))))) = true ∧ ((x10 != (IntKind.wrap .i64 ((Int.tmod (IntKind.wrap .u64 (a4)) (26 : Int))))) = true ∧ (True) ∧ (false = false ∧ ((x10 != (IntKind.wrap .i64 ((Int.tmod (IntKind.wrap .u64 (a4)) (26 : Int))))) = true ∧ (false = false ∧ (((t25.1 != t24.1) = true → (True ∧ (((True) ∧ (True) ∧ True) ∧ halterlaw10_RegsBack.l0_Q t2 t8 a0 a1 a2 a3 a4 a5 r .ret ⟨[.any, .any, .any, .any, .any, .any, .v (.one (.sc (.bool false))), .any, .any, .any, .any, .any, .any, .any, .any, .any, .any, .any, .any, .any, .any, .any, .any, .any, .any, .any, .any, .any, .any, .any, .any, .any, .any, .any, .any, .any, .any, .any, .any, .any, .any, .any, .any, .any, .any, .any, .any, .any, .any, .any, .any, .any, .any, .any, .any, .any, .any, .any, .any, .any, .any, .any, .any, .any, .any, .any, .any, .any, .any, .any, .any, .any, .any, .any, .any, .any, .any, .any, .any, .any, .any, .any, .any, .any, .any, .any, .any, .any, .any, .any, .any, .any, .any, .any, .any, .any, .any, .any, .any, .any, .any, .any, .any, .any, .any, .any, .any, .any, .any, .any, .any], [.ex false [.row 16 (.int .u32) a0, .c (.sc (.int .u32 a1)), .c (.sc (.int .u32 a2)), .row 4 (.int .u64) a3] 27, .ex false [.row 16 (.int .u32) a0, .c (.sc (.int .u32 a1)), .c (.sc (.int .u32 (Int.tmod a2 (32 : Int)))), .row 4 (.int .u64) a3] 28, .ex false [.row 16 (.int .u32) t2.1, .c (.sc (.int .u32 t2.2.1)), .c (.sc (.int .u32 t2.2.2.1)), .row 4 (.int .u64) t2.2.2.2.1] 28, .ex false [.row 16 (.int .u32) t8.1, .c (.sc (.int .u32 t8.2.1)), .c (.sc (.int .u32 t8.2.2.1)), .row 4 (.int .u64) t8.2.2.2.1] 28], 0⟩))) ∧ ((t25.1 != t24.1) = false → (True ∧ (True ∧ (True) ∧ (((True) ∧ (True) ∧ True) ∧ TripN cfg (cpath (Try.f4.body.getD .skip) [1, 1, 1, 1, 1, 1, 1, 1, 1, 1, 0, 1, 0, 0]) n (halterlaw10_RegsBack.l0_S t2 t8 a0 a1 a2 a3 a4 a5 (IntKind.wrap .i64 (x10 + (1 : Int)))) (halterlaw10_RegsBack.l0_Q t2 t8 a0 a1 a2 a3 a4 a5 r)))))))))))) ∧ ((x10 != (IntKind.wrap .i64 ((Int.tmod (IntKind.wrap .u64 (a4)) (26 : Int))))) = false → ((x10 != (IntKind.wrap .i64 ((Int.tmod (IntKind.wrap .u64 (a4)) (26 : Int))))) = false ∧ ((x10 != (IntKind.wrap .i64 ((Int.tmod (IntKind.wrap .u64 (a4)) (26 : Int))))) = false ∧ (false = false ∧ ((x10 != (IntKind.wrap .i64 ((Int.tmod (IntKind.wrap .u64 (a4)) (26 : Int))))) = false ∧ (false = false ∧ (false = false ∧ (True ∧ (True ∧ (True) ∧ (((True) ∧ (True) ∧ True) ∧ TripN cfg (cpath (Try.f4.body.getD .skip) [1, 1, 1, 1, 1, 1, 1, 1, 1, 1, 0, 1, 0, 0]) n (halterlaw10_RegsBack.l0_S t2 t8 a0 a1 a2 a3 a4 a5 (IntKind.wrap .i64 (x10 + (1 : Int)))) (halterlaw10_RegsBack.l0_Q t2 t8 a0 a1 a2 a3 a4 a5 r))))))))))))))))))))))))))) ∧ ((!(Option.isNone t25.2)) = true → ((!(Option.isNone t25.2)) = true ∧ ((!(Option.isNone t25.2)) = true ∧ ((!(Option.isNone t25.2)) = true ∧ ((!(Option.isNone t25.2)) = true ∧ ((!(Option.isNone t25.2)) = true ∧ (true = true ∧ (true = true ∧ (true = true ∧ (true = true ∧ (true = true ∧ (true = true ∧ (true = true ∧ (True ∧ (((True) ∧ (True) ∧ True) ∧ halterlaw10_RegsBack.l0_Q t2 t8 a0 a1 a2 a3 a4 a5 r .ret ⟨[.any, .any, .any, .any, .any, .any, .v (.one (.sc (.bool false))), .any, .any, .any, .any, .any, .any, .any, .any, .any, .any, .any, .any, .any, .any, .any, .any, .any, .any, .any, .any, .any, .any, .any, .any, .any, .any, .any, .any, .any, .any, .any, .any, .any, .any, .any, .any, .any, .any, .any, .any, .any, .any, .any, .any, .any, .any, .any, .any, .any, .any, .any, .any, .any, .any, .any, .any, .any, .any, .any, .any, .any, .any, .any, .any, .any, .any, .any, .any, .any, .any, .any, .any, .any, .any, .any, .any, .any, .any, .any, .any, .any, .any, .any, .any, .any, .any, .any, .any, .any, .any, .any, .any, .any, .any, .any, .any, .any, .any, .any, .any, .any, .any, .any, .any], [.ex false [.row 16 (.int .u32) a0, .c (.sc (.int .u32 a1)), .c (.sc (.int .u32 a2)), .row 4 (.int .u64) a3] 27, .ex false [.row 16 (.int .u32) a0, .c (.sc (.int .u32 a1)), .c (.sc (.int .u32 (Int.tmod a2 (32 : Int)))), .row 4 (.int .u64) a3] 28, .ex false [.row 16 (.int .u32) t2.1, .c (.sc (.int .u32 t2.2.1)), .c (.sc (.int .u32 t2.2.2.1)), .row 4 (.int .u64) t2.2.2.2.1] 28, .ex false [.row 16 (.int .u32) t8.1, .c (.sc (.int .u32 t8.2.1)), .c (.sc (.int .u32 t8.2.2.1)), .row 4 (.int .u64) t8.2.2.2.1] 28], 0⟩))))))))))))))))))) ∧ ((!(Option.isNone t24.2)) = true → ((!(Option.isNone t24.2)) = true ∧ ((!(Option.isNone t24.2)) = true ∧ (true = true ∧ (true = true ∧ (true = true ∧ (true = true ∧ (true = true ∧ (true = true ∧ (true = true ∧ (true = true ∧ (true = true ∧ (true = true ∧ (true = true ∧ (true = true ∧ (true = true ∧ (True ∧ (((True) ∧ (True) ∧ True) ∧ halterlaw10_RegsBack.l0_Q t2 t8 a0 a1 a2 a3 a4 a5 r .ret ⟨[.any, .any, .any, .any, .any, .any, .v (.one (.sc (.bool false))), .any, .any, .any, .any, .any, .any, .any, .any, .any, .any, .any, .any, .any, .any, .any, .any, .any, .any, .any, .any, .any, .any, .any, .any, .any, .any, .any, .any, .any, .any, .any, .any, .any, .any, .any, .any, .any, .any, .any, .any, .any, .any, .any, .any, .any, .any, .any, .any, .any, .any, .any, .any, .any, .any, .any, .any, .any, .any, .any, .any, .any, .any, .any, .any, .any, .any, .any, .any, .any, .any, .any, .any, .any, .any, .any, .any, .any, .any, .any, .any, .any, .any, .any, .any, .any, .any, .any, .any, .any, .any, .any, .any, .any, .any, .any, .any, .any, .any, .any, .any, .any, .any, .any, .any], [.ex false [.row 16 (.int .u32) a0, .c (.sc (.int .u32 a1)), .c (.sc (.int .u32 a2)), .row 4 (.int .u64) a3] 27, .ex false [.row 16 (.int .u32) a0, .c (.sc (.int .u32 a1)), .c (.sc (.int .u32 (Int.tmod a2 (32 : Int)))), .row 4 (.int .u64) a3] 28, .ex false [.row 16 (.int .u32) t2.1, .c (.sc (.int .u32 t2.2.1)), .c (.sc (.int .u32 t2.2.2.1)), .row 4 (.int .u64) t2.2.2.2.1] 28, .ex false [.row 16 (.int .u32) t8.1, .c (.sc (.int .u32 t8.2.1)), .c (.sc (.int .u32 t8.2.2.1)), .row 4 (.int .u64) t8.2.2.2.1] 28], 0⟩)))))))))))))))))))))) ∧ ((decide (x10 < (26 : Int))) = false → (((True) ∧ (True) ∧ True) ∧ halterlaw10_RegsBack.l0_Q t2 t8 a0 a1 a2 a3 a4 a5 r (.exit 0) ⟨[.any, .any, .any, .any, .any, .any, .any, .any, .any, .any, .any, .any, .any, .any, .any, .any, .any, .any, .any, .any, .any, .any, .any, .any, .any, .any, .any, .any, .any, .any, .any, .any, .any, .any, .any, .any, .any, .any, .any, .any, .any, .any, .any, .any, .any, .any, .any, .any, .any, .any, .any, .any, .any, .any, .any, .any, .any, .any, .any, .any, .any, .any, .any, .any, .any, .any, .any, .any, .any, .any, .any, .any, .any, .any, .any, .any, .any, .any, .any, .any, .any, .any, .any, .any, .any, .any, .any, .any, .any, .any, .any, .any, .any, .any, .any, .any, .any, .any, .any, .any, .any, .any, .any, .any, .any, .any, .any, .any, .any, .any, .any], [.ex false [.row 16 (.int .u32) a0, .c (.sc (.int .u32 a1)), .c (.sc (.int .u32 a2)), .row 4 (.int .u64) a3] 27, .ex false [.row 16 (.int .u32) a0, .c (.sc (.int .u32 a1)), .c (.sc (.int .u32 (Int.tmod a2 (32 : Int)))), .row 4 (.int .u64) a3] 28, .ex false [.row 16 (.int .u32) t2.1, .c (.sc (.int .u32 t2.2.1)), .c (.sc (.int .u32 t2.2.2.1)), .row 4 (.int .u64) t2.2.2.2.1] 28, .ex false [.row 16 (.int .u32) t8.1, .c (.sc (.int .u32 t8.2.1)), .c (.sc (.int .u32 t8.2.2.1)), .row 4 (.int .u64) t8.2.2.2.1] 28], 0⟩)))) (by kernel_rfl) ?_)
    refine ⟨trivial, ?_⟩
    refine ⟨fun b23 => ?_, fun b23 => ?_⟩
    · rw [if_pos (of_decide_eq_true b23)] at h
      refine ⟨trivial, ?_⟩
      obtain ⟨t24, ht24, h⟩ := of_bind h
      refine ⟨t24, ⟨regs_Get.fun_ ht24, trivial⟩, ?_⟩
      refine ⟨trivial, ?_⟩
      obtain ⟨t25, ht25, h⟩ := of_bind h
      refine ⟨t25, ⟨regs_Get.fun_ ht25, trivial⟩, ?_⟩
      refine ⟨trivial, ?_⟩
      refine ⟨fun b26 => ?_, fun b26 => ?_⟩
      · rw [if_neg (not_not_intro (none_t (not_f b26)))] at h
        refine ⟨b26, ?_⟩
        refine ⟨trivial, ?_⟩
        refine ⟨b26, ?_⟩
        refine ⟨fun b27 => ?_, fun b27 => ?_⟩
        · rw [if_neg (not_not_intro (none_t (not_f b27)))] at h
          refine ⟨b27, ?_⟩
          refine ⟨b27, ?_⟩
          refine ⟨trivial, ?_⟩
          refine ⟨b27, ?_⟩
          refine ⟨fun b28 => ?_, fun b28 => ?_⟩
          · rw [if_pos (beq_t b28)] at h
            refine ⟨b28, ?_⟩
            refine ⟨b28, ?_⟩
            refine ⟨trivial, ?_⟩
            refine ⟨b27, ?_⟩
            refine ⟨b28, ?_⟩
            refine ⟨b27, ?_⟩
            refine ⟨fun b29 => ?_, fun b29 => ?_⟩
            · rw [if_neg (not_not_intro (bne_f b29))] at h
              refine ⟨b29, ?_⟩
              refine ⟨b29, ?_⟩
              refine ⟨trivial, ?_⟩
              refine ⟨b29, ?_⟩
              refine ⟨fun b30 => ?_, fun b30 => ?_⟩
              · rw [if_pos (bne_t b30)] at h
                refine ⟨b30, ?_⟩
                refine ⟨b30, ?_⟩
                refine ⟨trivial, ?_⟩
                refine ⟨b29, ?_⟩
                refine ⟨b30, ?_⟩
                refine ⟨b29, ?_⟩
                refine ⟨fun b31 => ?_, fun b31 => ?_⟩
                · rw [if_pos (bne_t b31)] at h
                  refine ⟨trivial, ?_⟩
                  obtain rfl := Option.some.inj h
                  exact ⟨⟨trivial, trivial, trivial⟩, rfl, rfl⟩
                · rw [if_neg (not_not_intro (bne_f b31))] at h
                  refine ⟨trivial, ?_⟩
                  refine ⟨trivial, ?_⟩
                  refine ⟨trivial, ?_⟩
                  exact ⟨⟨trivial, trivial, trivial⟩, halterlaw10_RegsBack.l0_ok t2 t8 a0 a1 a2 a3 a4 a5 n (IntKind.wrap .i64 (x10 + (1 : Int))) r h⟩
              · rw [if_neg (not_not_intro (bne_f b30))] at h
                refine ⟨b30, ?_⟩
                refine ⟨b30, ?_⟩
                refine ⟨b29, ?_⟩
                refine ⟨b30, ?_⟩
                refine ⟨b29, ?_⟩
                refine ⟨rfl, ?_⟩
                refine ⟨trivial, ?_⟩
                refine ⟨trivial, ?_⟩
                refine ⟨trivial, ?_⟩
                exact ⟨⟨trivial, trivial, trivial⟩, halterlaw10_RegsBack.l0_ok t2 t8 a0 a1 a2 a3 a4 a5 n (IntKind.wrap .i64 (x10 + (1 : Int))) r h⟩
            · rw [if_pos (bne_t b29)] at h
              refine ⟨b29, ?_⟩
              refine ⟨b29, ?_⟩
              refine ⟨b29, ?_⟩
              refine ⟨b29, ?_⟩
              refine ⟨b29, ?_⟩
              refine ⟨rfl, ?_⟩
              refine ⟨trivial, ?_⟩
              obtain rfl := Option.some.inj h
              exact ⟨⟨trivial, trivial, trivial⟩, rfl, rfl⟩
          · rw [if_neg (beq_f b28)] at h
            refine ⟨b28, ?_⟩
            refine ⟨b28, ?_⟩
            refine ⟨b27, ?_⟩
            refine ⟨b28, ?_⟩
            refine ⟨b27, ?_⟩
            refine ⟨rfl, ?_⟩
            refine ⟨rfl, ?_⟩
            refine ⟨rfl, ?_⟩
            refine ⟨trivial, ?_⟩
            refine ⟨rfl, ?_⟩
            refine ⟨fun b32 => ?_, fun b32 => ?_⟩
            · rw [if_pos (bne_t b32)] at h
              refine ⟨b32, ?_⟩
              refine ⟨b32, ?_⟩
              refine ⟨trivial, ?_⟩
              refine ⟨rfl, ?_⟩
              refine ⟨b32, ?_⟩
              refine ⟨rfl, ?_⟩
              refine ⟨fun b33 => ?_, fun b33 => ?_⟩
              · rw [if_pos (bne_t b33)] at h
                refine ⟨trivial, ?_⟩
                obtain rfl := Option.some.inj h
                exact ⟨⟨trivial, trivial, trivial⟩, rfl, rfl⟩
              · rw [if_neg (not_not_intro (bne_f b33))] at h
                refine ⟨trivial, ?_⟩
                refine ⟨trivial, ?_⟩
                refine ⟨trivial, ?_⟩
                exact ⟨⟨trivial, trivial, trivial⟩, halterlaw10_RegsBack.l0_ok t2 t8 a0 a1 a2 a3 a4 a5 n (IntKind.wrap .i64 (x10 + (1 : Int))) r h⟩
            · rw [if_neg (not_not_intro (bne_f b32))] at h
              refine ⟨b32, ?_⟩
              refine ⟨b32, ?_⟩
              refine ⟨rfl, ?_⟩
              refine ⟨b32, ?_⟩
              refine ⟨rfl, ?_⟩
              refine ⟨rfl, ?_⟩
              refine ⟨trivial, ?_⟩
              refine ⟨trivial, ?_⟩
              refine ⟨trivial, ?_⟩
              exact ⟨⟨trivial, trivial, trivial⟩, halterlaw10_RegsBack.l0_ok t2 t8 a0 a1 a2 a3 a4 a5 n (IntKind.wrap .i64 (x10 + (1 : Int))) r h⟩
        · rw [if_pos (none_f (not_t b27))] at h
          refine ⟨b27, ?_⟩
          refine ⟨b27, ?_⟩
          refine ⟨b27, ?_⟩
          refine ⟨b27, ?_⟩
          refine ⟨b27, ?_⟩
          refine ⟨rfl, ?_⟩
          refine ⟨rfl, ?_⟩
          refine ⟨rfl, ?_⟩
          refine ⟨rfl, ?_⟩
          refine ⟨rfl, ?_⟩
          refine ⟨rfl, ?_⟩
          refine ⟨rfl, ?_⟩
          refine ⟨trivial, ?_⟩
          obtain rfl := Option.some.inj h
          exact ⟨⟨trivial, trivial, trivial⟩, rfl, rfl⟩
      · rw [if_pos (none_f (not_t b26))] at h
        refine ⟨b26, ?_⟩
        refine ⟨b26, ?_⟩
        refine ⟨rfl, ?_⟩
        refine ⟨rfl, ?_⟩
        refine ⟨rfl, ?_⟩
        refine ⟨rfl, ?_⟩
        refine ⟨rfl, ?_⟩
        refine ⟨rfl, ?_⟩
        refine ⟨rfl, ?_⟩
        refine ⟨rfl, ?_⟩
        refine ⟨rfl, ?_⟩
        refine ⟨rfl, ?_⟩
        refine ⟨rfl, ?_⟩
        refine ⟨rfl, ?_⟩
        refine ⟨rfl, ?_⟩
        refine ⟨trivial, ?_⟩
        obtain rfl := Option.some.inj h
        exact ⟨⟨trivial, trivial, trivial⟩, rfl, rfl⟩
    · rw [if_neg (of_decide_eq_false b23)] at h
      obtain rfl := Option.some.inj h
      exact ⟨⟨trivial, trivial, trivial⟩, rfl, rfl⟩
def halterlaw10_RegsBack.l1 (t2 : (List Int) × Int × Int × (List Int) × (Option Int)) (t37 : (List Int) × Int × Int × (List Int) × (Option Int)) (a0 : (List Int)) (a1 : Int) (a2 : Int) (a3 : (List Int)) (a4 : Int) (a5 : Int) : Nat → Int → Option ((Unit) ⊕ (Unit))
  | 0, _ => none
  | n + 1, x39 =>
    if x39 < (26 : Int) then
      (regs_Get.f a0 a1 (Int.tmod a2 (32 : Int)) a3 x39).bind fun t53 =>
      (regs_Get.f t37.1 t37.2.1 t37.2.2.1 t37.2.2.2.1 x39).bind fun t54 =>
      if ¬ (t53.2 = none) then
        some (.inr ())
      else
        if ¬ (t54.2 = none) then
          some (.inr ())
        else
          if x39 = (IntKind.wrap .i64 ((Int.tmod (IntKind.wrap .u64 (a4)) (26 : Int)))) then
            if ¬ t54.1 = a5 then
              some (.inr ())
            else
              if ¬ x39 = (IntKind.wrap .i64 ((Int.tmod (IntKind.wrap .u64 (a4)) (26 : Int)))) then
                if ¬ t54.1 = t53.1 then
                  some (.inr ())
                else
                  halterlaw10_RegsBack.l1 t2 t37 a0 a1 a2 a3 a4 a5 n (IntKind.wrap .i64 (x39 + (1 : Int)))
              else
                halterlaw10_RegsBack.l1 t2 t37 a0 a1 a2 a3 a4 a5 n (IntKind.wrap .i64 (x39 + (1 : Int)))
          else
            if ¬ x39 = (IntKind.wrap .i64 ((Int.tmod (IntKind.wrap .u64 (a4)) (26 : Int)))) then
              if ¬ t54.1 = t53.1 then
                some (.inr ())
              else
                halterlaw10_RegsBack.l1 t2 t37 a0 a1 a2 a3 a4 a5 n (IntKind.wrap .i64 (x39 + (1 : Int)))
            else
              halterlaw10_RegsBack.l1 t2 t37 a0 a1 a2 a3 a4 a5 n (IntKind.wrap .i64 (x39 + (1 : Int)))
    else
      some (.inl ())
def halterlaw10_RegsBack.l1_S (t2 : (List Int) × Int × Int × (List Int) × (Option Int)) (t37 : (List Int) × Int × Int × (List Int) × (Option Int)) (a0 : (List Int)) (a1 : Int) (a2 : Int) (a3 : (List Int)) (a4 : Int) (a5 : Int) (x39 : Int) : St := ⟨[.any, .any, .v (.one (.sc (.int .u32 a5))), .any, .any, .any, .any, .v (.one (.ptr 1 ⟨0, 0, 0, 0⟩)), .any, .any, .any, .any, .v (.one (.sc (.int .i64 (IntKind.wrap .i64 ((Int.tmod (IntKind.wrap .u64 (a4)) (26 : Int))))))), .v (.one (.ptr 3 ⟨0, 0, 0, 0⟩)), .any, .v (.one (.sc (.int .i64 x39))), .any, .any, .any, .any, .any, .any, .any, .any, .any, .any, .any, .any, .any, .any, .any, .any, .any, .any, .any, .any, .any, .any, .any, .any, .any, .any, .any, .any, .any, .any, .any, .any, .any, .any, .any, .any, .any, .any, .any, .any, .any, .any, .any, .any, .any, .any, .any, .any, .any, .any, .any, .any, .any, .any, .any, .any, .any, .any, .any, .any, .any, .any, .any, .any, .any, .any, .any, .any, .any, .any, .any, .any, .any, .any, .any, .any, .any, .any, .any, .any, .any, .any, .any, .any, .any, .any, .any, .any, .any, .any, .any, .any, .any, .any, .any], [.ex false [.row 16 (.int .u32) a0, .c (.sc (.int .u32 a1)), .c (.sc (.int .u32 a2)), .row 4 (.int .u64) a3] 27, .ex false [.row 16 (.int .u32) a0, .c (.sc (.int .u32 a1)), .c (.sc (.int .u32 (Int.tmod a2 (32 : Int)))), .row 4 (.int .u64) a3] 28, .ex false [.row 16 (.int .u32) t2.1, .c (.sc (.int .u32 t2.2.1)), .c (.sc (.int .u32 t2.2.2.1)), .row 4 (.int .u64) t2.2.2.2.1] 28, .ex false [.row 16 (.int .u32) t37.1, .c (.sc (.int .u32 t37.2.1)), .c (.sc (.int .u32 t37.2.2.1)), .row 4 (.int .u64) t37.2.2.2.1] 28], 0⟩
def halterlaw10_RegsBack.l1_Q (t2 : (List Int) × Int × Int × (List Int) × (Option Int)) (t37 : (List Int) × Int × Int × (List Int) × (Option Int)) (a0 : (List Int)) (a1 : Int) (a2 : Int) (a3 : (List Int)) (a4 : Int) (a5 : Int) : (Unit) ⊕ (Unit) → Exit → St → Prop
  | .inl t => fun e s => e = (.exit 0) ∧ s = ⟨[.any, .any, .any, .any, .any, .any, .any, .any, .any, .any, .any, .any, .any, .any, .any, .any, .any, .any, .any, .any, .any, .any, .any, .any, .any, .any, .any, .any, .any, .any, .any, .any, .any, .any, .any, .any, .any, .any, .any, .any, .any, .any, .any, .any, .any, .any, .any, .any, .any, .any, .any, .any, .any, .any, .any, .any, .any, .any, .any, .any, .any, .any, .any, .any, .any, .any, .any, .any, .any, .any, .any, .any, .any, .any, .any, .any, .any, .any, .any, .any, .any, .any, .any, .any, .any, .any, .any, .any, .any, .any, .any, .any, .any, .any, .any, .any, .any, .any, .any, .any, .any, .any, .any, .any, .any, .any, .any, .any, .any, .any, .any], [.ex false [.row 16 (.int .u32) a0, .c (.sc (.int .u32 a1)), .c (.sc (.int .u32 a2)), .row 4 (.int .u64) a3] 27, .ex false [.row 16 (.int .u32) a0, .c (.sc (.int .u32 a1)), .c (.sc (.int .u32 (Int.tmod a2 (32 : Int)))), .row 4 (.int .u64) a3] 28, .ex false [.row 16 (.int .u32) t2.1, .c (.sc (.int .u32 t2.2.1)), .c (.sc (.int .u32 t2.2.2.1)), .row 4 (.int .u64) t2.2.2.2.1] 28, .ex false [.row 16 (.int .u32) t37.1, .c (.sc (.int .u32 t37.2.1)), .c (.sc (.int .u32 t37.2.2.1)), .row 4 (.int .u64) t37.2.2.2.1] 28], 0⟩
  | .inr t => fun e s => e = .ret ∧ s = ⟨[.any, .any, .any, .any, .any, .any, .v (.one (.sc (.bool false))), .any, .any, .any, .any, .any, .any, .any, .any, .any, .any, .any, .any, .any, .any, .any, .any, .any, .any, .any, .any, .any, .any, .any, .any, .any, .any, .any, .any, .any, .any, .any, .any, .any, .any, .any, .any, .any, .any, .any, .any, .any, .any, .any, .any, .any, .any, .any, .any, .any, .any, .any, .any, .any, .any, .any, .any, .any, .any, .any, .any, .any, .any, .any, .any, .any, .any, .any, .any, .any, .any, .any, .any, .any, .any, .any, .any, .any, .any, .any, .any, .any, .any, .any, .any, .any, .any, .any, .any, .any, .any, .any, .any, .any, .any, .any, .any, .any, .any, .any, .any, .any, .any, .any, .any], [.ex false [.row 16 (.int .u32) a0, .c (.sc (.int .u32 a1)), .c (.sc (.int .u32 a2)), .row 4 (.int .u64) a3] 27, .ex false [.row 16 (.int .u32) a0, .c (.sc (.int .u32 a1)), .c (.sc (.int .u32 (Int.tmod a2 (32 : Int)))), .row 4 (.int .u64) a3] 28, .ex false [.row 16 (.int .u32) t2.1, .c (.sc (.int .u32 t2.2.1)), .c (.sc (.int .u32 t2.2.2.1)), .row 4 (.int .u64) t2.2.2.2.1] 28, .ex false [.row 16 (.int .u32) t37.1, .c (.sc (.int .u32 t37.2.1)), .c (.sc (.int .u32 t37.2.2.1)), .row 4 (.int .u64) t37.2.2.2.1] 28], 0⟩
theorem halterlaw10_RegsBack.l1_ok (t2 : (List Int) × Int × Int × (List Int) × (Option Int)) (t37 : (List Int) × Int × Int × (List Int) × (Option Int)) (a0 : (List Int)) (a1 : Int) (a2 : Int) (a3 : (List Int)) (a4 : Int) (a5 : Int) : ∀ (n : Nat) (x39 : Int) (r : (Unit) ⊕ (Unit)), halterlaw10_RegsBack.l1 t2 t37 a0 a1 a2 a3 a4 a5 n x39 = some r → TripN cfg (cpath (Try.f4.body.getD .skip) [1, 1, 1, 1, 1, 1, 1, 1, 1, 1, 0, 1, 0, 0]) n (halterlaw10_RegsBack.l1_S t2 t37 a0 a1 a2 a3 a4 a5 x39) (halterlaw10_RegsBack.l1_Q t2 t37 a0 a1 a2 a3 a4 a5 r)
  | 0, _, r, h => by cases h
  | n + 1, x39, r, h => by
    rw [halterlaw10_RegsBack.l1] at h
    refine TripN.of_run cfg_ok (k := (.br (.call true [] (Int × (Option Int)) (fun t53 => regs_Get.R t53) (fun t53 => (.call true [] (Int × (Option Int)) (fun t54 => regs_Get.R t54) (fun t54 => (.br (.one true (.one true (.one true (.one true (.one true (.one true (.one true (.one true (.one true (.one true (.one true (.one true (.one true (.one true (.one true (.adj [] (.adj [.keep [6], .drop 4] .nil))))))))))))))))) (.one false (.one false (.br (.one true (.one true (.one true (.one true (.one true (.one true (.one true (.one true (.one true (.one true (.one true (.one true (.adj [] (.adj [.keep [6], .drop 4] .nil)))))))))))))) (.one false (.one false (.one false (.br (.one true (.one true (.one false (.one true (.one false (.br (.one true (.one true (.one true (.one true (.one true (.one true (.adj [] (.adj [.keep [6], .drop 4] .nil)))))))) (.one false (.one false (.one false (.br (.one true (.one true (.one false (.one true (.one false (.br (.adj [] (.adj [.keep [6], .drop 4] .nil)) (.adj [] (.adj [] (.adj [.keep [2, 7, 12, 13, 15], .drop 4] .nil))))))))) (.one false (.one false (.one false (.one false (.one false (.one false (.adj [] (.adj [] (.adj [.keep [2, 7, 12, 13, 15], .drop 4] .nil))))))))))))))))))) (.one false (.one false (.one false (.one false (.one false (.one false (.one false (.one false (.one false (.br (.one true (.one true (.one false (.one true (.one false (.br (.adj [] (.adj [.keep [6], .drop 4] .nil)) (.adj [] (.adj [] (.adj [.keep [2, 7, 12, 13, 15], .drop 4] .nil))))))))) (.one false (.one false (.one false (.one false (.one false (.one false (.adj [] (.adj [] (.adj [.keep [2, 7, 12, 13, 15], .drop 4] .nil))))))))))))))))))))))))))))))) (.adj [.keep [], .drop 4] .nil))) (to_goal (q := (True) ∧ (((decide (x39 < (26 : Int))) = true → (True) ∧ (∃ t53 : Int × (Option Int), (Fun cfg 6 [.agg [.row 16 (.int .u32) a0, .c (.sc (.int .u32 a1)), .c (.sc (.int .u32 (Int.tmod a2 (32 : Int)))), .row 4 (.int .u64) a3], .one (.sc (.int .i64 x39))] [] (regs_Get.R t53) [] ∧ True) ∧ (True) ∧ (∃ t54 : Int × (Option Int), (Fun cfg 6 [.agg [.row 16 (.int .u32) t37.1, .c (.sc (.int .u32 t37.2.1)), .c (.sc (.int .u32 t37.2.2.1)), .row 4 (.int .u64) t37.2.2.2.1], .one (.sc (.int .i64 x39))] [] (regs_Get.R t54) [] ∧ True) ∧ (True) ∧ (((!(Option.isNone t53.2)) = false → ((!(Option.isNone t53.2)) = false ∧ (True) ∧ ((!(Option.isNone t53.2)) = false ∧ (((!(Option.isNone t54.2)) = false → ((!(Option.isNone t54.2)) = false ∧ ((!(Option.isNone t54.2)) = false ∧ (True) ∧ ((!(Option.isNone t54.2)) = false ∧ (((x39 == (IntKind.wrap .i64 ((Int.tmod (IntKind.wrap .u64 (a4)) (26 : Int))))) = true → ((x39 == (IntKind.wrap .i64 ((Int.tmod (IntKind.wrap .u64 (a4)) (26 : Int))))) = true ∧ ((x39 == (IntKind.wrap .i64 ((Int.tmod (IntKind.wrap .u64 (a4)) (26 : Int))))) = true ∧ (True) ∧ ((!(Option.isNone t54.2)) = false ∧ ((x39 == (IntKind.wrap .i64 ((Int.tmod (IntKind.wrap .u64 (a4)) (26 : Int))))) = true ∧ ((!(Option.isNone t54.2)) = false ∧ (((t54.1 != a5) = false → ((t54.1 != a5) = false ∧ ((t54.1 != a5) = false ∧ (True) ∧ ((t54.1 != a5) = false ∧ (((x39 != (IntKind.wrap .i64 ((Int.tmod (IntKind.wrap .u64 (a4)) (26 : Int))))) = true → ((x39 != (IntKind.wrap .i64 ((Int.tmod (IntKind.wrap .u64 (a4)) (26 : Int))))) = true ∧ ((x39 != (IntKind.wrap .i64 ((Int.tmod (IntKind.wrap .u64 (a4)) (26 : Int))))) = true ∧ (True) ∧ ((t54.1 != a5) = false ∧ ((x39 != (IntKind.wrap .i64 ((Int.tmod (IntKind.wrap .u64 (a4)) (26 : Int))))) = true ∧ ((t54.1 != a5) = false ∧ (((t54.1 != t53.1) = true → (True ∧ (((True) ∧ (True) ∧ True) ∧ halterlaw10_RegsBack.l1_Q t2 t37 a0 a1 a2 a3 a4 a5 r .ret ⟨[.any, .any, .any, .any, .any, .any, .v (.one (.sc (.bool false))), .any, .any, .any, .any, .any, .any, .any, .any, .any, .any, .any, .any, .any, .any, .any, .any, .any, .any, .any, .any, .any, .any, .any, .any, .any, .any, .any, .any, .any, .any, .any, .any, .any, .any, .any, .any, .any, .any, .any, .any, .any, .any, .any, .any, .any, .any, .any, .any, .any, .any, .any, .any, .any, .any, .any, .any, .any, .any, .any, .any, .any, .any, .any, .any, .any, .any, .any, .any, .any, .any, .any, .any, .any, .any, .any, .any, .any, .any, .any, .any, .any, .any, .any, .any, .any, .any, .any, .any, .any, .any, .any, .any, .any, .any, .any, .any, .any, .any, .any, .any, .any, .any, .any, .any], [.ex false [.row 16 (.int .u32) a0, .c (.sc (.int .u32 a1)), .c (.sc (.int .u32 a2)), .row 4 (.int .u64) a3] 27, .ex false [.row 16 (.int .u32) a0, .c (.sc (.int .u32 a1)), .c (.sc (.int .u32 (Int.tmod a2 (32 : Int)))), .row 4 (.int .u64) a3] 28, .ex false [.row 16 (.int .u32) t2.1, .c (.sc (.int .u32 t2.2.1)), .c (.sc (.int .u32 t2.2.2.1)), .row 4 (.int .u64) t2.2.2.2.1] 28, .ex false [.row 16 (.int .u32) t37.1, .c (.sc (.int .u32 t37.2.1)), .c (.sc (.int .u32 t37.2.2.1)), .row 4 (.int .u64) t37.2.2.2.1] 28], 0⟩))) ∧ ((t54.1 != t53.1) = false → (True ∧ (True ∧ (True) ∧ (((True) ∧ (True) ∧ True) ∧ TripN cfg (cpath (Try.f4.body.getD .skip) [1, 1, 1, 1, 1, 1, 1, 1, 1, 1, 0, 1, 0, 0]) n (halterlaw10_RegsBack.l1_S t2 t37 a0 a1 a2 a3 a4 a5 (IntKind.wrap .i64 (x39 + (1 : Int)))) (halterlaw10_RegsBack.l1_Q t2 t37 a0 a1 a2 a3 a4 a5 r)))))))))))) ∧ ((x39 != (IntKind.wrap .i64 ((Int.tmod (IntKind.wrap .u64 (a4)) (26 : Int))))) = false → ((x39 != (IntKind.wrap .i64 ((Int.tmod (IntKind.wrap .u64 (a4)) (26 : Int))))) = false ∧ ((x39 != (IntKind.wrap .i64 ((Int.tmod (IntKind.wrap .u64 (a4)) (26 : Int))))) = false ∧ ((t54.1 != a5) = false ∧ ((x39 != (IntKind.wrap .i64 ((Int.tmod (IntKind.wrap .u64 (a4)) (26 : Int))))) = false ∧ ((t54.1 != a5) = false ∧ (false = false ∧ (True ∧ (True ∧ (True) ∧ (((True) ∧ (True) ∧ True) ∧ TripN cfg (cpath (Try.f4.body.getD .skip) [1, 1, 1, 1, 1, 1, 1, 1, 1, 1, 0, 1, 0, 0]) n (halterlaw10_RegsBack.l1_S t2 t37 a0 a1 a2 a3 a4 a5 (IntKind.wrap .i64 (x39 + (1 : Int)))) (halterlaw10_RegsBack.l1_Q t2 t37 a0 a1 a2 a3 a4 a5 r)))))))))))))))) ∧ ((t54.1 != a5) = true → ((t54.1 != a5) = true ∧ ((t54.1 != a5) = true ∧ ((t54.1 != a5) = true ∧ ((t54.1 != a5) = true ∧ ((t54.1 != a5) = true ∧ (true = true ∧ (True ∧ (((True) ∧ (True) ∧ True) ∧ halterlaw10_RegsBack.l1_Q t2 t37 a0 a1 a2 a3 a4 a5 r .ret ⟨[.any, .any, .any, .any, .any, .any, .v (.one (.sc (.bool false))), .any, .any, .any, .any, .any, .any, .any, .any, .any, .any, .any, .any, .any, .any, .any, .any, .any, .any, .any, .any, .any, .any, .any, .any, .any, .any, .any, .any, .any, .any, .any, .any, .any, .any, .any, .any, .any, .any, .any, .any, .any, .any, .any, .any, .any, .any, .any, .any, .any, .any, .any, .any, .any, .any, .any, .any, .any, .any, .any, .any, .any, .any, .any, .any, .any, .any, .any, .any, .any, .any, .any, .any, .any, .any, .any, .any, .any, .any, .any, .any, .any, .any, .any, .any, .any, .any, .any, .any, .any, .any, .any, .any, .any, .any, .any, .any, .any, .any, .any, .any, .any, .any, .any, .any], [.ex false [.row 16 (.int .u32) a0, .c (.sc (.int .u32 a1)), .c (.sc (.int .u32 a2)), .row 4 (.int .u64) a3] 27, .ex false [.row 16 (.int .u32) a0, .c (.sc (.int .u32 a1)), .c (.sc (.int .u32 (Int.tmod a2 (32 : Int)))), .row 4 (.int .u64) a3] 28, .ex false [.row 16 (.int .u32) t2.1, .c (.sc (.int .u32 t2.2.1)), .c (.sc (.int .u32 t2.2.2.1)), .row 4 (.int .u64) t2.2.2.2.1] 28, .ex false [.row 16 (.int .u32) t37.1, .c (.sc (.int .u32 t37.2.1)), .c (.sc (.int .u32 t37.2.2.1)), .row 4 (.int .u64) t37.2.2.2.1] 28], 0⟩)))))))))))))))) ∧ ((x39 == (IntKind.wrap .i64 ((Int.tmod (IntKind.wrap .u64 (a4)) (26 : Int))))) = false → ((x39 == (IntKind.wrap .i64 ((Int.tmod (IntKind.wrap .u64 (a4)) (26 : Int))))) = false ∧ ((x39 == (IntKind.wrap .i64 ((Int.tmod (IntKind.wrap .u64 (a4)) (26 : Int))))) = false ∧ ((!(Option.isNone t54.2)) = false ∧ ((x39 == (IntKind.wrap .i64 ((Int.tmod (IntKind.wrap .u64 (a4)) (26 : Int))))) = false ∧ ((!(Option.isNone t54.2)) = false ∧ (false = false ∧ (false = false ∧ (false = false ∧ (True) ∧ (false = false ∧ (((x39 != (IntKind.wrap .i64 ((Int.tmod (IntKind.wrap .u64 (a4)) (26 : Int))))) = true → ((x39 != (IntKind.wrap .i64 ((Int.tmod (IntKind.wrap .u64 (a4)) (26 : Int))))) = true ∧ ((x39 != (IntKind.wrap .i64 ((Int.tmod (IntKind.wrap .u64 (a4)) (26 : Int))))) = true ∧ (True) ∧ (false = false ∧ ((x39 != (IntKind.wrap .i64 ((Int.tmod (IntKind.wrap .u64 (a4)) (26 : Int))))) = true ∧ (false = false ∧ (((t54.1 != t53.1) = true → (True ∧ (((True) ∧ (True) ∧ True) ∧ halterlaw10_RegsBack.l1_Q t2 t37 a0 a1 a2 a3 a4 a5 r .ret ⟨[.any, .any, .any, .any, .any, .any, .v (.one (.sc (.bool false))), .any, .any, .any, .any, .any, .any, .any, .any, .any, .any, .any, .any, .any, .any, .any, .any, .any, .any, .any, .any, .any, .any, .any, .any, .any, .any, .any, .any, .any, .any, .any, .any, .any, .any, .any, .any, .any, .any, .any, .any, .any, .any, .any, .any, .any, .any, .any, .any, .any, .any, .any, .any, .any, .any, .any, .any, .any, .any, .any, .any, .any, .any, .any, .any, .any, .any, .any, .any, .any, .any, .any, .any, .any, .any, .any, .any, .any, .any, .any, .any, .any, .any, .any, .any, .any, .any, .any, .any, .any, .any, .any, .any, .any, .any, .any, .any, .any, .any, .any, .any, .any, .any, .any, .any], [.ex false [.row 16 (.int .u32) a0, .c (.sc (.int .u32 a1)), .c (.sc (.int .u32 a2)), .row 4 (.int .u64) a3] 27, .ex false [.row 16 (.int .u32) a0, .c (.sc (.int .u32 a1)), .c (.sc (.int .u32 (Int.tmod a2 (32 : Int)))), .row 4 (.int .u64) a3] 28, .ex false [.row 16 (.int .u32) t2.1, .c (.sc (.int .u32 t2.2.1)), .c (.sc (.int .u32 t2.2.2.1)), .row 4 (.int .u64) t2.2.2.2.1] 28, .ex false [.row 16 (.int .u32) t37.1, .c (.sc (.int .u32 t37.2.1)), .c (.sc (.int .u32 t37.2.2.1)), .row 4 (.int .u64) t37.2.2.2.1] 28], 0⟩))) ∧ ((t54.1 != t53.1) = false → (True ∧ (True ∧ (True) ∧ (((True) ∧ (True) ∧ True) ∧ TripN cfg (cpath (Try.f4.body.getD .skip) [1, 1, 1, 1, 1, 1, 1, 1, 1, 1, 0, 1, 0, 0]) n (halterlaw10_RegsBack.l1_S t2 t37 a0 a1 a2 a3 a4 a5 (IntKind.wrap .i64 (x39 + (1 : Int)))) (halterlaw10_RegsBack.l1_Q t2 t37 a0 a1 a2 a3 a4 a5 r)))))))))))) ∧ ((x39 != (IntKind.wrap .i64 ((Int.tmod (IntKind.wrap .u64 (a4)) (26 : Int))))) = false → ((x39 != (IntKind.wrap .i64 ((Int.tmod (IntKind.wrap .u64 (a4)) (26 : Int))))) = false ∧ ((x39 != (IntKind.wrap .i64 ((Int.tmod (IntKind.wrap .u64 (a4)) (26 : Int))))) = false ∧ (false = false ∧ ((x39 != (IntKind.wrap .i64 ((Int.tmod (IntKind.wrap .u64 (a4)) (26 : Int))))) = false ∧ (false = false ∧ (false = false ∧ (True ∧ (True ∧ (True) ∧ (((True) ∧ (True) ∧ True) ∧ TripN cfg (cpath (Try.f4.body.getD .skip) [1, 1, 1, 1, 1, 1, 1, 1, 1, 1, 0, 1, 0, 0]) n (halterlaw10_RegsBack.l1_S t2 t37 a0 a1 a2 a3 a4 a5 (IntKind.wrap .i64 (x39 + (1 : Int)))) (halterlaw10_RegsBack.l1_Q t2 t37 a0 a1 a2 a3 a4 a5 r))))))))))))))))))))))))))) ∧ ((!(Option.isNone t54.2)) = true → ((!(Option.isNone t54.2)) = true ∧ ((!(Option.isNone t54.2)) = true ∧ ((!(Option.isNone t54.2)) = true ∧ ((!(Option.isNone t54.2)) = true ∧ ((!(Option.isNone t54.2)) = true ∧ (true = true ∧ (true = true ∧ (true = true ∧ (true = true ∧ (true = true ∧ (true = true ∧ (true = true ∧ (True ∧ (((True) ∧ (True) ∧ True) ∧ halterlaw10_RegsBack.l1_Q t2 t37 a0 a1 a2 a3 a4 a5 r .ret ⟨[.any, .any, .any, .any, .any, .any, .v (.one (.sc (.bool false))), .any, .any, .any, .any, .any, .any, .any, .any, .any, .any, .any, .any, .any, .any, .any, .any, .any, .any, .any, .any, .any, .any, .any, .any, .any, .any, .any, .any, .any, .any, .any, .any, .any, .any, .any, .any, .any, .any, .any, .any, .any, .any, .any, .any, .any, .any, .any, .any, .any, .any, .any, .any, .any, .any, .any, .any, .any, .any, .any, .any, .any, .any, .any, .any, .any, .any, .any, .any, .any, .any, .any, .any, .any, .any, .any, .any, .any, .any, .any, .any, .any, .any, .any, .any, .any, .any, .any, .any, .any, .any, .any, .any, .any, .any, .any, .any, .any, .any, .any, .any, .any, .any, .any, .any], [.ex false [.row 16 (.int .u32) a0, .c (.sc (.int .u32 a1)), .c (.sc (.int .u32 a2)), .row 4 (.int .u64) a3] 27, .ex false [.row 16 (.int .u32) a0, .c (.sc (.int .u32 a1)), .c (.sc (.int .u32 (Int.tmod a2 (32 : Int)))), .row 4 (.int .u64) a3] 28, .ex false [.row 16 (.int .u32) t2.1, .c (.sc (.int .u32 t2.2.1)), .c (.sc (.int .u32 t2.2.2.1)), .row 4 (.int .u64) t2.2.2.2.1] 28, .ex false [.row 16 (.int .u32) t37.1, .c (.sc (.int .u32 t37.2.1)), .c (.sc (.int .u32 t37.2.2.1)), .row 4 (.int .u64) t37.2.2.2.1] 28], 0⟩))))))))))))))))))) ∧ ((!(Option.isNone t53.2)) = true → ((!(Option.isNone t53.2)) = true ∧ ((!(Option.isNone t53.2)) = true ∧ (true = true ∧ (true = true ∧ (true = true ∧ (true = true ∧ (true = true ∧ (true = true ∧ (true = true ∧ (true = true ∧ (true = true ∧ (true = true ∧ (true = true ∧ (true = true ∧ (true = true ∧ (True ∧ (((True) ∧ (True) ∧ True) ∧ halterlaw10_RegsBack.l1_Q t2 t37 a0 a1 a2 a3 a4 a5 r .ret ⟨[.any, .any, .any, .any, .any, .any, .v (.one (.sc (.bool false))), .any, .any, .any, .any, .any, .any, .any, .any, .any, .any, .any, .any, .any, .any, .any, .any, .any, .any, .any, .any, .any, .any, .any, .any, .any, .any, .any, .any, .any, .any, .any, .any, .any, .any, .any, .any, .any, .any, .any, .any, .any, .any, .any, .any, .any, .any, .any, .any, .any, .any, .any, .any, .any, .any, .any, .any, .any, .any, .any, .any, .any, .any, .any, .any, .any, .any, .any, .any, .any, .any, .any, .any, .any, .any, .any, .any, .any, .any, .any, .any, .any, .any, .any, .any, .any, .any, .any, .any, .any, .any, .any, .any, .any, .any, .any, .any, .any, .any, .any, .any, .any, .any, .any, .any], [.ex false [.row 16 (.int .u32) a0, .c (.sc (.int .u32 a1)), .c (.sc (.int .u32 a2)), .row 4 (.int .u64) a3] 27, .ex false [.row 16 (.int .u32) a0, .c (.sc (.int .u32 a1)), .c (.sc (.int .u32 (Int.tmod a2 (32 : Int)))), .row 4 (.int .u64) a3] 28, .ex false [.row 16 (.int .u32) t2.1, .c (.sc (.int .u32 t2.2.1)), .c (.sc (.int .u32 t2.2.2.1)), .row 4 (.int .u64) t2.2.2.2.1] 28, .ex false [.row 16 (.int .u32) t37.1, .c (.sc (.int .u32 t37.2.1)), .c (.sc (.int .u32 t37.2.2.1)), .row 4 (.int .u64) t37.2.2.2.1] 28], 0⟩)))))))))))))))))))))) ∧ ((decide (x39 < (26 : Int))) = false → (((True) ∧ (True) ∧ True) ∧ halterlaw10_RegsBack.l1_Q t2 t37 a0 a1 a2 a3 a4 a5 r (.exit 0) ⟨[.any, .any, .any, .any, .any, .any, .any, .any, .any, .any, .any, .any, .any, .any, .any, .any, .any, .any, .any, .any, .any, .any, .any, .any, .any, .any, .any, .any, .any, .any, .any, .any, .any, .any, .any, .any, .any, .any, .any, .any, .any, .any, .any, .any, .any, .any, .any, .any, .any, .any, .any, .any, .any, .any, .any, .any, .any, .any, .any, .any, .any, .any, .any, .any, .any, .any, .any, .any, .any, .any, .any, .any, .any, .any, .any, .any, .any, .any, .any, .any, .any, .any, .any, .any, .any, .any, .any, .any, .any, .any, .any, .any, .any, .any, .any, .any, .any, .any, .any, .any, .any, .any, .any, .any, .any, .any, .any, .any, .any, .any, .any], [.ex false [.row 16 (.int .u32) a0, .c (.sc (.int .u32 a1)), .c (.sc (.int .u32 a2)), .row 4 (.int .u64) a3] 27, .ex false [.row 16 (.int .u32) a0, .c (.sc (.int .u32 a1)), .c (.sc (.int .u32 (Int.tmod a2 (32 : Int)))), .row 4 (.int .u64) a3] 28, .ex false [.row 16 (.int .u32) t2.1, .c (.sc (.int .u32 t2.2.1)), .c (.sc (.int .u32 t2.2.2.1)), .row 4 (.int .u64) t2.2.2.2.1] 28, .ex false [.row 16 (.int .u32) t37.1, .c (.sc (.int .u32 t37.2.1)), .c (.sc (.int .u32 t37.2.2.1)), .row 4 (.int .u64) t37.2.2.2.1] 28], 0⟩)))) (by kernel_rfl) ?_)
    refine ⟨trivial, ?_⟩
    refine ⟨fun b52 => ?_, fun b52 => ?_⟩
    · rw [if_pos (of_decide_eq_true b52)] at h
      refine ⟨trivial, ?_⟩
      obtain ⟨t53, ht53, h⟩ := of_bind h
      refine ⟨t53, ⟨regs_Get.fun_ ht53, trivial⟩, ?_⟩
      refine ⟨trivial, ?_⟩
      obtain ⟨t54, ht54, h⟩ := of_bind h
      refine ⟨t54, ⟨regs_Get.fun_ ht54, trivial⟩, ?_⟩
      refine ⟨trivial, ?_⟩
      refine ⟨fun b55 => ?_, fun b55 => ?_⟩
      · rw [if_neg (not_not_intro (none_t (not_f b55)))] at h
        refine ⟨b55, ?_⟩
        refine ⟨trivial, ?_⟩
        refine ⟨b55, ?_⟩
        refine ⟨fun b56 => ?_, fun b56 => ?_⟩
        · rw [if_neg (not_not_intro (none_t (not_f b56)))] at h
          refine ⟨b56, ?_⟩
          refine ⟨b56, ?_⟩
          refine ⟨trivial, ?_⟩
          refine ⟨b56, ?_⟩
          refine ⟨fun b57 => ?_, fun b57 => ?_⟩
          · rw [if_pos (beq_t b57)] at h
            refine ⟨b57, ?_⟩
            refine ⟨b57, ?_⟩
            refine ⟨trivial, ?_⟩
            refine ⟨b56, ?_⟩
            refine ⟨b57, ?_⟩
            refine ⟨b56, ?_⟩
            refine ⟨fun b58 => ?_, fun b58 => ?_⟩
            · rw [if_neg (not_not_intro (bne_f b58))] at h
              refine ⟨b58, ?_⟩
              refine ⟨b58, ?_⟩
              refine ⟨trivial, ?_⟩
              refine ⟨b58, ?_⟩
              refine ⟨fun b59 => ?_, fun b59 => ?_⟩
              · rw [if_pos (bne_t b59)] at h
                refine ⟨b59, ?_⟩
                refine ⟨b59, ?_⟩
                refine ⟨trivial, ?_⟩
                refine ⟨b58, ?_⟩
                refine ⟨b59, ?_⟩
                refine ⟨b58, ?_⟩
                refine ⟨fun b60 => ?_, fun b60 => ?_⟩
                · rw [if_pos (bne_t b60)] at h
                  refine ⟨trivial, ?_⟩
                  obtain rfl := Option.some.inj h
                  exact ⟨⟨trivial, trivial, trivial⟩, rfl, rfl⟩
                · rw [if_neg (not_not_intro (bne_f b60))] at h
                  refine ⟨trivial, ?_⟩
                  refine ⟨trivial, ?_⟩
                  refine ⟨trivial, ?_⟩
                  exact ⟨⟨trivial, trivial, trivial⟩, halterlaw10_RegsBack.l1_ok t2 t37 a0 a1 a2 a3 a4 a5 n (IntKind.wrap .i64 (x39 + (1 : Int))) r h⟩
              · rw [if_neg (not_not_intro (bne_f b59))] at h
                refine ⟨b59, ?_⟩
                refine ⟨b59, ?_⟩
                refine ⟨b58, ?_⟩
                refine ⟨b59, ?_⟩
                refine ⟨b58, ?_⟩
                refine ⟨rfl, ?_⟩
                refine ⟨trivial, ?_⟩
                refine ⟨trivial, ?_⟩
                refine ⟨trivial, ?_⟩
                exact ⟨⟨trivial, trivial, trivial⟩, halterlaw10_RegsBack.l1_ok t2 t37 a0 a1 a2 a3 a4 a5 n (IntKind.wrap .i64 (x39 + (1 : Int))) r h⟩
            · rw [if_pos (bne_t b58)] at h
              refine ⟨b58, ?_⟩
              refine ⟨b58, ?_⟩
              refine ⟨b58, ?_⟩
              refine ⟨b58, ?_⟩
              refine ⟨b58, ?_⟩
              refine ⟨rfl, ?_⟩
              refine ⟨trivial, ?_⟩
              obtain rfl := Option.some.inj h
              exact ⟨⟨trivial, trivial, trivial⟩, rfl, rfl⟩
          · rw [if_neg (beq_f b57)] at h
            refine ⟨b57, ?_⟩
            refine ⟨b57, ?_⟩
            refine ⟨b56, ?_⟩
            refine ⟨b57, ?_⟩
            refine ⟨b56, ?_⟩
            refine ⟨rfl, ?_⟩
            refine ⟨rfl, ?_⟩
            refine ⟨rfl, ?_⟩
            refine ⟨trivial, ?_⟩
            refine ⟨rfl, ?_⟩
            refine ⟨fun b61 => ?_, fun b61 => ?_⟩
            · rw [if_pos (bne_t b61)] at h
              refine ⟨b61, ?_⟩
              refine ⟨b61, ?_⟩
              refine ⟨trivial, ?_⟩
              refine ⟨rfl, ?_⟩
              refine ⟨b61, ?_⟩
              refine ⟨rfl, ?_⟩
              refine ⟨fun b62 => ?_, fun b62 => ?_⟩
              · rw [if_pos (bne_t b62)] at h
                refine ⟨trivial, ?_⟩
                obtain rfl := Option.some.inj h
                exact ⟨⟨trivial, trivial, trivial⟩, rfl, rfl⟩
              · rw [if_neg (not_not_intro (bne_f b62))] at h
                refine ⟨trivial, ?_⟩
                refine ⟨trivial, ?_⟩
                refine ⟨trivial, ?_⟩
                exact ⟨⟨trivial, trivial, trivial⟩, halterlaw10_RegsBack.l1_ok t2 t37 a0 a1 a2 a3 a4 a5 n (IntKind.wrap .i64 (x39 + (1 : Int))) r h⟩
            · rw [if_neg (not_not_intro (bne_f b61))] at h
              refine ⟨b61, ?_⟩
              refine ⟨b61, ?_⟩
              refine ⟨rfl, ?_⟩
              refine ⟨b61, ?_⟩
              refine ⟨rfl, ?_⟩
              refine ⟨rfl, ?_⟩
              refine ⟨trivial, ?_⟩
              refine ⟨trivial, ?_⟩
              refine ⟨trivial, ?_⟩
              exact ⟨⟨trivial, trivial, trivial⟩, halterlaw10_RegsBack.l1_ok t2 t37 a0 a1 a2 a3 a4 a5 n (IntKind.wrap .i64 (x39 + (1 : Int))) r h⟩
        · rw [if_pos (none_f (not_t b56))] at h
          refine ⟨b56, ?_⟩
          refine ⟨b56, ?_⟩
          refine ⟨b56, ?_⟩
          refine ⟨b56, ?_⟩
          refine ⟨b56, ?_⟩
          refine ⟨rfl, ?_⟩
          refine ⟨rfl, ?_⟩
          refine ⟨rfl, ?_⟩
          refine ⟨rfl, ?_⟩
          refine ⟨rfl, ?_⟩
          refine ⟨rfl, ?_⟩
          refine ⟨rfl, ?_⟩
          refine ⟨trivial, ?_⟩
          obtain rfl := Option.some.inj h
          exact ⟨⟨trivial, trivial, trivial⟩, rfl, rfl⟩
      · rw [if_pos (none_f (not_t b55))] at h
        refine ⟨b55, ?_⟩
        refine ⟨b55, ?_⟩
        refine ⟨rfl, ?_⟩
        refine ⟨rfl, ?_⟩
        refine ⟨rfl, ?_⟩
        refine ⟨rfl, ?_⟩
        refine ⟨rfl, ?_⟩
        refine ⟨rfl, ?_⟩
        refine ⟨rfl, ?_⟩
        refine ⟨rfl, ?_⟩
        refine ⟨rfl, ?_⟩
        refine ⟨rfl, ?_⟩
        refine ⟨rfl, ?_⟩
        refine ⟨rfl, ?_⟩
        refine ⟨rfl, ?_⟩
        refine ⟨trivial, ?_⟩
        obtain rfl := Option.some.inj h
        exact ⟨⟨trivial, trivial, trivial⟩, rfl, rfl⟩
    · rw [if_neg (of_decide_eq_false b52)] at h
      obtain rfl := Option.some.inj h
      exact ⟨⟨trivial, trivial, trivial⟩, rfl, rfl⟩
def halterlaw10_RegsBack.f (a0 : (List Int)) (a1 : Int) (a2 : Int) (a3 : (List Int)) (a4 : Int) (a5 : Int) : Option Bool :=
  (regs_Encode.f a0 a1 (Int.tmod a2 (32 : Int)) a3).bind fun t1 =>
  (regs_Decode.f t1.1).bind fun t2 =>
  if ¬ (t1.2 = none) then
    some false
  else
    if ¬ (t2.2.2.2.2 = none) then
      some false
    else
      if ¬ ((t2.1 = a0 ∧ (t2.2.1 = a1 ∧ (t2.2.2.1 = (Int.tmod a2 (32 : Int)) ∧ t2.2.2.2.1 = a3)))) then
        some false
      else
        if ¬ (((List.length t1.1) : Nat) : Int) = (104 : Int) then
          some false
        else
          if (IntKind.wrap .i64 ((Int.tmod (IntKind.wrap .u64 (a4)) (26 : Int)))) = (17 : Int) then
            (regs_Set.f a0 a1 (Int.tmod a2 (32 : Int)) a3 (IntKind.wrap .i64 ((Int.tmod (IntKind.wrap .u64 (a4)) (26 : Int)))) (Int.tmod a5 (32 : Int))).bind fun t8 =>
            if ¬ (t8.2.2.2.2 = none) then
              some false
            else
              (halterlaw10_RegsBack.l0 t2 t8 a0 a1 a2 a3 a4 a5 FUEL (0 : Int)).bind fun t22 =>
              match t22 with
              | .inl t34 =>
                halterlaw10_sure.f.bind fun t35 =>
                some t35
              | .inr t36 =>
                some false
          else
            (regs_Set.f a0 a1 (Int.tmod a2 (32 : Int)) a3 (IntKind.wrap .i64 ((Int.tmod (IntKind.wrap .u64 (a4)) (26 : Int)))) a5).bind fun t37 =>
            if ¬ (t37.2.2.2.2 = none) then
              some false
            else
              (halterlaw10_RegsBack.l1 t2 t37 a0 a1 a2 a3 a4 a5 FUEL (0 : Int)).bind fun t51 =>
              match t51 with
              | .inl t63 =>
                halterlaw10_sure.f.bind fun t64 =>
                some t64
              | .inr t65 =>
                some false
def halterlaw10_RegsBack.R (r : Bool) : Tm := .v (.one (.sc (.bool r)))
theorem halterlaw10_RegsBack.fun_ {a0 : (List Int)} {a1 : Int} {a2 : Int} {a3 : (List Int)} {a4 : Int} {a5 : Int} {r : Bool} (h : halterlaw10_RegsBack.f a0 a1 a2 a3 a4 a5 = some r) : Fun cfg 4 [.agg [.row 16 (.int .u32) a0, .c (.sc (.int .u32 a1)), .c (.sc (.int .u32 a2)), .row 4 (.int .u64) a3], .one (.sc (.int .i64 a4)), .one (.sc (.int .u32 a5))] [] (halterlaw10_RegsBack.R r) [] := by
  unfold halterlaw10_RegsBack.f at h
  refine fun_of_run cfg_ok (f := 4) (fn := Try.f4) Try.func4 rfl (by kernel_rfl) (rs := [.tmp 6]) rfl (nt := 111) rfl (l := fin) (k := (.call true [] ((List Int) × (Option Int)) (fun t1 => regs_Encode.R t1) (fun t1 => (.call true [] ((List Int) × Int × Int × (List Int) × (Option Int)) (fun t2 => regs_Decode.R t2) (fun t2 => (.br (.one true (.one true (.one true (.one true (.one true (.one true (.one true (.one true (.one true (.one true (.one true (.adj [] (.adj [] (.adj [.drop 0] .nil)))))))))))))) (.one false (.one false (.br (.one true (.one true (.one true (.one true (.one true (.one true (.one true (.one true (.adj [] (.adj [] (.adj [.drop 0] .nil))))))))))) (.one false (.one false (.one false (.br (.one true (.one true (.one true (.one true (.adj [] (.adj [] (.adj [.drop 0] .nil))))))) (.one false (.one false (.one false (.br (.adj [] (.adj [] (.adj [.drop 0] .nil))) (.br (.call true [] ((List Int) × Int × Int × (List Int) × (Option Int)) (fun t8 => regs_Set.R t8) (fun t8 => (.br (.adj [] (.adj [] (.adj [.drop 0] .nil))) (.adj [] (.adj [] (.adj [.keep [2, 7, 12, 13, 15]] (.alt (.sub (Unit) (fun _ => (.exit 0)) (fun t34 => ⟨[.any, .any, .any, .any, .any, .any, .any, .any, .any, .any, .any, .any, .any, .any, .any, .any, .any, .any, .any, .any, .any, .any, .any, .any, .any, .any, .any, .any, .any, .any, .any, .any, .any, .any, .any, .any, .any, .any, .any, .any, .any, .any, .any, .any, .any, .any, .any, .any, .any, .any, .any, .any, .any, .any, .any, .any, .any, .any, .any, .any, .any, .any, .any, .any, .any, .any, .any, .any, .any, .any, .any, .any, .any, .any, .any, .any, .any, .any, .any, .any, .any, .any, .any, .any, .any, .any, .any, .any, .any, .any, .any, .any, .any, .any, .any, .any, .any, .any, .any, .any, .any, .any, .any, .any, .any, .any, .any, .any, .any, .any, .any], [.ex false [.row 16 (.int .u32) a0, .c (.sc (.int .u32 a1)), .c (.sc (.int .u32 a2)), .row 4 (.int .u64) a3] 27, .ex false [.row 16 (.int .u32) a0, .c (.sc (.int .u32 a1)), .c (.sc (.int .u32 (Int.tmod a2 (32 : Int)))), .row 4 (.int .u64) a3] 28, .ex false [.row 16 (.int .u32) t2.1, .c (.sc (.int .u32 t2.2.1)), .c (.sc (.int .u32 t2.2.2.1)), .row 4 (.int .u64) t2.2.2.2.1] 28, .ex false [.row 16 (.int .u32) t8.1, .c (.sc (.int .u32 t8.2.1)), .c (.sc (.int .u32 t8.2.2.1)), .row 4 (.int .u64) t8.2.2.2.1] 28], 0⟩) (fun t34 => (.call true [] (Bool) (fun t35 => halterlaw10_sure.R t35) (fun t35 => (.adj [] (.adj [.drop 0] .nil)))))) (.sub (Unit) (fun _ => .ret) (fun t36 => ⟨[.any, .any, .any, .any, .any, .any, .v (.one (.sc (.bool false))), .any, .any, .any, .any, .any, .any, .any, .any, .any, .any, .any, .any, .any, .any, .any, .any, .any, .any, .any, .any, .any, .any, .any, .any, .any, .any, .any, .any, .any, .any, .any, .any, .any, .any, .any, .any, .any, .any, .any, .any, .any, .any, .any, .any, .any, .any, .any, .any, .any, .any, .any, .any, .any, .any, .any, .any, .any, .any, .any, .any, .any, .any, .any, .any, .any, .any, .any, .any, .any, .any, .any, .any, .any, .any, .any, .any, .any, .any, .any, .any, .any, .any, .any, .any, .any, .any, .any, .any, .any, .any, .any, .any, .any, .any, .any, .any, .any, .any, .any, .any, .any, .any, .any, .any], [.ex false [.row 16 (.int .u32) a0, .c (.sc (.int .u32 a1)), .c (.sc (.int .u32 a2)), .row 4 (.int .u64) a3] 27, .ex false [.row 16 (.int .u32) a0, .c (.sc (.int .u32 a1)), .c (.sc (.int .u32 (Int.tmod a2 (32 : Int)))), .row 4 (.int .u64) a3] 28, .ex false [.row 16 (.int .u32) t2.1, .c (.sc (.int .u32 t2.2.1)), .c (.sc (.int .u32 t2.2.2.1)), .row 4 (.int .u64) t2.2.2.2.1] 28, .ex false [.row 16 (.int .u32) t8.1, .c (.sc (.int .u32 t8.2.1)), .c (.sc (.int .u32 t8.2.2.1)), .row 4 (.int .u64) t8.2.2.2.1] 28], 0⟩) (fun t36 => (.adj [.drop 0] .nil)))))))))) (.call true [] ((List Int) × Int × Int × (List Int) × (Option Int)) (fun t37 => regs_Set.R t37) (fun t37 => (.br (.adj [] (.adj [] (.adj [.drop 0] .nil))) (.adj [] (.adj [] (.adj [.keep [2, 7, 12, 13, 15]] (.alt (.sub (Unit) (fun _ => (.exit 0)) (fun t63 => ⟨[.any, .any, .any, .any, .any, .any, .any, .any, .any, .any, .any, .any, .any, .any, .any, .any, .any, .any, .any, .any, .any, .any, .any, .any, .any, .any, .any, .any, .any, .any, .any, .any, .any, .any, .any, .any, .any, .any, .any, .any, .any, .any, .any, .any, .any, .any, .any, .any, .any, .any, .any, .any, .any, .any, .any, .any, .any, .any, .any, .any, .any, .any, .any, .any, .any, .any, .any, .any, .any, .any, .any, .any, .any, .any, .any, .any, .any, .any, .any, .any, .any, .any, .any, .any, .any, .any, .any, .any, .any, .any, .any, .any, .any, .any, .any, .any, .any, .any, .any, .any, .any, .any, .any, .any, .any, .any, .any, .any, .any, .any, .any], [.ex false [.row 16 (.int .u32) a0, .c (.sc (.int .u32 a1)), .c (.sc (.int .u32 a2)), .row 4 (.int .u64) a3] 27, .ex false [.row 16 (.int .u32) a0, .c (.sc (.int .u32 a1)), .c (.sc (.int .u32 (Int.tmod a2 (32 : Int)))), .row 4 (.int .u64) a3] 28, .ex false [.row 16 (.int .u32) t2.1, .c (.sc (.int .u32 t2.2.1)), .c (.sc (.int .u32 t2.2.2.1)), .row 4 (.int .u64) t2.2.2.2.1] 28, .ex false [.row 16 (.int .u32) t37.1, .c (.sc (.int .u32 t37.2.1)), .c (.sc (.int .u32 t37.2.2.1)), .row 4 (.int .u64) t37.2.2.2.1] 28], 0⟩) (fun t63 => (.call true [] (Bool) (fun t64 => halterlaw10_sure.R t64) (fun t64 => (.adj [] (.adj [.drop 0] .nil)))))) (.sub (Unit) (fun _ => .ret) (fun t65 => ⟨[.any, .any, .any, .any, .any, .any, .v (.one (.sc (.bool false))), .any, .any, .any, .any, .any, .any, .any, .any, .any, .any, .any, .any, .any, .any, .any, .any, .any, .any, .any, .any, .any, .any, .any, .any, .any, .any, .any, .any, .any, .any, .any, .any, .any, .any, .any, .any, .any, .any, .any, .any, .any, .any, .any, .any, .any, .any, .any, .any, .any, .any, .any, .any, .any, .any, .any, .any, .any, .any, .any, .any, .any, .any, .any, .any, .any, .any, .any, .any, .any, .any, .any, .any, .any, .any, .any, .any, .any, .any, .any, .any, .any, .any, .any, .any, .any, .any, .any, .any, .any, .any, .any, .any, .any, .any, .any, .any, .any, .any, .any, .any, .any, .any, .any, .any], [.ex false [.row 16 (.int .u32) a0, .c (.sc (.int .u32 a1)), .c (.sc (.int .u32 a2)), .row 4 (.int .u64) a3] 27, .ex false [.row 16 (.int .u32) a0, .c (.sc (.int .u32 a1)), .c (.sc (.int .u32 (Int.tmod a2 (32 : Int)))), .row 4 (.int .u64) a3] 28, .ex false [.row 16 (.int .u32) t2.1, .c (.sc (.int .u32 t2.2.1)), .c (.sc (.int .u32 t2.2.2.1)), .row 4 (.int .u64) t2.2.2.2.1] 28, .ex false [.row 16 (.int .u32) t37.1, .c (.sc (.int .u32 t37.2.1)), .c (.sc (.int .u32 t37.2.2.1)), .row 4 (.int .u64) t37.2.2.2.1] 28], 0⟩) (fun t65 => (.adj [.drop 0] .nil)))))))))))))))))))))))))))) (to_goal (q := (True) ∧ (True) ∧ (True) ∧ ((32 : Int) ≠ 0) ∧ (True) ∧ (True) ∧ (∃ t1 : (List Int) × (Option Int), (Fun cfg 8 [.agg [.row 16 (.int .u32) a0, .c (.sc (.int .u32 a1)), .c (.sc (.int .u32 (Int.tmod a2 (32 : Int)))), .row 4 (.int .u64) a3]] [] (regs_Encode.R t1) [] ∧ True) ∧ (∃ t2 : (List Int) × Int × Int × (List Int) × (Option Int), (Fun cfg 9 [.one (.fs (.int .u8) t1.1 false)] [] (regs_Decode.R t2) [] ∧ True) ∧ (True) ∧ (True) ∧ (((!(Option.isNone t1.2)) = false → ((!(Option.isNone t1.2)) = false ∧ (True) ∧ ((!(Option.isNone t1.2)) = false ∧ (((!(Option.isNone t2.2.2.2.2)) = false → (True) ∧ ((!(Option.isNone t2.2.2.2.2)) = false ∧ (True) ∧ ((!(Option.isNone t2.2.2.2.2)) = false ∧ (True) ∧ ((!(Option.isNone t2.2.2.2.2)) = false ∧ (((!((intsEq t2.1 a0) && ((t2.2.1 == a1) && ((t2.2.2.1 == (Int.tmod a2 (32 : Int))) && ((intsEq t2.2.2.2.1 a3) && true))))) = false → ((!((intsEq t2.1 a0) && ((t2.2.1 == a1) && ((t2.2.2.1 == (Int.tmod a2 (32 : Int))) && ((intsEq t2.2.2.2.1 a3) && true))))) = false ∧ (True) ∧ ((!((intsEq t2.1 a0) && ((t2.2.1 == a1) && ((t2.2.2.1 == (Int.tmod a2 (32 : Int))) && ((intsEq t2.2.2.2.1 a3) && true))))) = false ∧ (True) ∧ ((!((intsEq t2.1 a0) && ((t2.2.1 == a1) && ((t2.2.2.1 == (Int.tmod a2 (32 : Int))) && ((intsEq t2.2.2.2.1 a3) && true))))) = false ∧ ((((((List.length t1.1) : Nat) : Int) != (104 : Int)) = true → (True ∧ (True ∧ ((True) ∧ ((True) ∧ True) ∧ (.v (.one (.sc (.bool false))) : Tm) = halterlaw10_RegsBack.R r ∧ ([] : List Box) = [])))) ∧ (((((List.length t1.1) : Nat) : Int) != (104 : Int)) = false → (True) ∧ ((26 : Int) ≠ 0) ∧ (True) ∧ (True) ∧ ((((IntKind.wrap .i64 ((Int.tmod (IntKind.wrap .u64 (a4)) (26 : Int)))) == (17 : Int)) = true → ((32 : Int) ≠ 0) ∧ (True) ∧ (∃ t8 : (List Int) × Int × Int × (List Int) × (Option Int), (Fun cfg 5 [.agg [.row 16 (.int .u32) a0, .c (.sc (.int .u32 a1)), .c (.sc (.int .u32 (Int.tmod a2 (32 : Int)))), .row 4 (.int .u64) a3], .one (.sc (.int .i64 (IntKind.wrap .i64 ((Int.tmod (IntKind.wrap .u64 (a4)) (26 : Int)))))), .one (.sc (.int .u32 (Int.tmod a5 (32 : Int))))] [] (regs_Set.R t8) [] ∧ True) ∧ (True) ∧ (True) ∧ (((!(Option.isNone t8.2.2.2.2)) = true → (True ∧ (True ∧ ((True) ∧ ((True) ∧ True) ∧ (.v (.one (.sc (.bool false))) : Tm) = halterlaw10_RegsBack.R r ∧ ([] : List Box) = [])))) ∧ ((!(Option.isNone t8.2.2.2.2)) = false → (True ∧ (True ∧ (((True) ∧ True) ∧ ((∃ t34 : Unit, Trip cfg (.loop (cpath (Try.f4.body.getD .skip) [1, 1, 1, 1, 1, 1, 1, 1, 1, 1, 0, 1, 0, 0])) ⟨[.any, .any, .v (.one (.sc (.int .u32 (Int.tmod a5 (32 : Int))))), .any, .any, .any, .any, .v (.one (.ptr 1 ⟨0, 0, 0, 0⟩)), .any, .any, .any, .any, .v (.one (.sc (.int .i64 (IntKind.wrap .i64 ((Int.tmod (IntKind.wrap .u64 (a4)) (26 : Int))))))), .v (.one (.ptr 3 ⟨0, 0, 0, 0⟩)), .any, .v (.one (.sc (.int .i64 (0 : Int)))), .any, .any, .any, .any, .any, .any, .any, .any, .any, .any, .any, .any, .any, .any, .any, .any, .any, .any, .any, .any, .any, .any, .any, .any, .any, .any, .any, .any, .any, .any, .any, .any, .any, .any, .any, .any, .any, .any, .any, .any, .any, .any, .any, .any, .any, .any, .any, .any, .any, .any, .any, .any, .any, .any, .any, .any, .any, .any, .any, .any, .any, .any, .any, .any, .any, .any, .any, .any, .any, .any, .any, .any, .any, .any, .any, .any, .any, .any, .any, .any, .any, .any, .any, .any, .any, .any, .any, .any, .any, .any, .any, .any, .any, .any, .any], [.ex false [.row 16 (.int .u32) a0, .c (.sc (.int .u32 a1)), .c (.sc (.int .u32 a2)), .row 4 (.int .u64) a3] 27, .ex false [.row 16 (.int .u32) a0, .c (.sc (.int .u32 a1)), .c (.sc (.int .u32 (Int.tmod a2 (32 : Int)))), .row 4 (.int .u64) a3] 28, .ex false [.row 16 (.int .u32) t2.1, .c (.sc (.int .u32 t2.2.1)), .c (.sc (.int .u32 t2.2.2.1)), .row 4 (.int .u64) t2.2.2.2.1] 28, .ex false [.row 16 (.int .u32) t8.1, .c (.sc (.int .u32 t8.2.1)), .c (.sc (.int .u32 t8.2.2.1)), .row 4 (.int .u64) t8.2.2.2.1] 28], 0⟩ (fun e s => e = (.exit 0) ∧ s = ⟨[.any, .any, .any, .any, .any, .any, .any, .any, .any, .any, .any, .any, .any, .any, .any, .any, .any, .any, .any, .any, .any, .any, .any, .any, .any, .any, .any, .any, .any, .any, .any, .any, .any, .any, .any, .any, .any, .any, .any, .any, .any, .any, .any, .any, .any, .any, .any, .any, .any, .any, .any, .any, .any, .any, .any, .any, .any, .any, .any, .any, .any, .any, .any, .any, .any, .any, .any, .any, .any, .any, .any, .any, .any, .any, .any, .any, .any, .any, .any, .any, .any, .any, .any, .any, .any, .any, .any, .any, .any, .any, .any, .any, .any, .any, .any, .any, .any, .any, .any, .any, .any, .any, .any, .any, .any, .any, .any, .any, .any, .any, .any], [.ex false [.row 16 (.int .u32) a0, .c (.sc (.int .u32 a1)), .c (.sc (.int .u32 a2)), .row 4 (.int .u64) a3] 27, .ex false [.row 16 (.int .u32) a0, .c (.sc (.int .u32 a1)), .c (.sc (.int .u32 (Int.tmod a2 (32 : Int)))), .row 4 (.int .u64) a3] 28, .ex false [.row 16 (.int .u32) t2.1, .c (.sc (.int .u32 t2.2.1)), .c (.sc (.int .u32 t2.2.2.1)), .row 4 (.int .u64) t2.2.2.2.1] 28, .ex false [.row 16 (.int .u32) t8.1, .c (.sc (.int .u32 t8.2.1)), .c (.sc (.int .u32 t8.2.2.1)), .row 4 (.int .u64) t8.2.2.2.1] 28], 0⟩) ∧ (∃ t35 : Bool, (Fun cfg 7 [] [] (halterlaw10_sure.R t35) [] ∧ True) ∧ (True ∧ ((True) ∧ ((True) ∧ True) ∧ (.v (.one (.sc (.bool t35))) : Tm) = halterlaw10_RegsBack.R r ∧ ([] : List Box) = [])))) ∨ (∃ t36 : Unit, Trip cfg (.loop (cpath (Try.f4.body.getD .skip) [1, 1, 1, 1, 1, 1, 1, 1, 1, 1, 0, 1, 0, 0])) ⟨[.any, .any, .v (.one (.sc (.int .u32 (Int.tmod a5 (32 : Int))))), .any, .any, .any, .any, .v (.one (.ptr 1 ⟨0, 0, 0, 0⟩)), .any, .any, .any, .any, .v (.one (.sc (.int .i64 (IntKind.wrap .i64 ((Int.tmod (IntKind.wrap .u64 (a4)) (26 : Int))))))), .v (.one (.ptr 3 ⟨0, 0, 0, 0⟩)), .any, .v (.one (.sc (.int .i64 (0 : Int)))), .any, .any, .any, .any, .any, .any, .any, .any, .any, .any, .any, .any, .any, .any, .any, .any, .any, .any, .any, .any, .any, .any, .any, .any, .any, .any, .any, .any, .any, .any, .any, .any, .any, .any, .any, .any, .any, .any, .any, .any, .any, .any, .any, .any, .any, .any, .any, .any, .any, .any, .any, .any, .any, .any, .any, .any, .any, .any, .any, .any, .any, .any, .any, .any, .any, .any, .any, .any, .any, .any, .any, .any, .any, .any, .any, .any, .any, .any, .any, .any, .any, .any, .any, .any, .any, .any, .any, .any, .any, .any, .any, .any, .any, .any, .any], [.ex false [.row 16 (.int .u32) a0, .c (.sc (.int .u32 a1)), .c (.sc (.int .u32 a2)), .row 4 (.int .u64) a3] 27, .ex false [.row 16 (.int .u32) a0, .c (.sc (.int .u32 a1)), .c (.sc (.int .u32 (Int.tmod a2 (32 : Int)))), .row 4 (.int .u64) a3] 28, .ex false [.row 16 (.int .u32) t2.1, .c (.sc (.int .u32 t2.2.1)), .c (.sc (.int .u32 t2.2.2.1)), .row 4 (.int .u64) t2.2.2.2.1] 28, .ex false [.row 16 (.int .u32) t8.1, .c (.sc (.int .u32 t8.2.1)), .c (.sc (.int .u32 t8.2.2.1)), .row 4 (.int .u64) t8.2.2.2.1] 28], 0⟩ (fun e s => e = .ret ∧ s = ⟨[.any, .any, .any, .any, .any, .any, .v (.one (.sc (.bool false))), .any, .any, .any, .any, .any, .any, .any, .any, .any, .any, .any, .any, .any, .any, .any, .any, .any, .any, .any, .any, .any, .any, .any, .any, .any, .any, .any, .any, .any, .any, .any, .any, .any, .any, .any, .any, .any, .any, .any, .any, .any, .any, .any, .any, .any, .any, .any, .any, .any, .any, .any, .any, .any, .any, .any, .any, .any, .any, .any, .any, .any, .any, .any, .any, .any, .any, .any, .any, .any, .any, .any, .any, .any, .any, .any, .any, .any, .any, .any, .any, .any, .any, .any, .any, .any, .any, .any, .any, .any, .any, .any, .any, .any, .any, .any, .any, .any, .any, .any, .any, .any, .any, .any, .any], [.ex false [.row 16 (.int .u32) a0, .c (.sc (.int .u32 a1)), .c (.sc (.int .u32 a2)), .row 4 (.int .u64) a3] 27, .ex false [.row 16 (.int .u32) a0, .c (.sc (.int .u32 a1)), .c (.sc (.int .u32 (Int.tmod a2 (32 : Int)))), .row 4 (.int .u64) a3] 28, .ex false [.row 16 (.int .u32) t2.1, .c (.sc (.int .u32 t2.2.1)), .c (.sc (.int .u32 t2.2.2.1)), .row 4 (.int .u64) t2.2.2.2.1] 28, .ex false [.row 16 (.int .u32) t8.1, .c (.sc (.int .u32 t8.2.1)), .c (.sc (.int .u32 t8.2.2.1)), .row 4 (.int .u64) t8.2.2.2.1] 28], 0⟩) ∧ ((True) ∧ ((True) ∧ True) ∧ (.v (.one (.sc (.bool false))) : Tm) = halterlaw10_RegsBack.R r ∧ ([] : List Box) = [])))))))))) ∧ (((IntKind.wrap .i64 ((Int.tmod (IntKind.wrap .u64 (a4)) (26 : Int)))) == (17 : Int)) = false → (True) ∧ (∃ t37 : (List Int) × Int × Int × (List Int) × (Option Int), (Fun cfg 5 [.agg [.row 16 (.int .u32) a0, .c (.sc (.int .u32 a1)), .c (.sc (.int .u32 (Int.tmod a2 (32 : Int)))), .row 4 (.int .u64) a3], .one (.sc (.int .i64 (IntKind.wrap .i64 ((Int.tmod (IntKind.wrap .u64 (a4)) (26 : Int)))))), .one (.sc (.int .u32 a5))] [] (regs_Set.R t37) [] ∧ True) ∧ (True) ∧ (True) ∧ (((!(Option.isNone t37.2.2.2.2)) = true → (True ∧ (True ∧ ((True) ∧ ((True) ∧ True) ∧ (.v (.one (.sc (.bool false))) : Tm) = halterlaw10_RegsBack.R r ∧ ([] : List Box) = [])))) ∧ ((!(Option.isNone t37.2.2.2.2)) = false → (True ∧ (True ∧ (((True) ∧ True) ∧ ((∃ t63 : Unit, Trip cfg (.loop (cpath (Try.f4.body.getD .skip) [1, 1, 1, 1, 1, 1, 1, 1, 1, 1, 0, 1, 0, 0])) ⟨[.any, .any, .v (.one (.sc (.int .u32 a5))), .any, .any, .any, .any, .v (.one (.ptr 1 ⟨0, 0, 0, 0⟩)), .any, .any, .any, .any, .v (.one (.sc (.int .i64 (IntKind.wrap .i64 ((Int.tmod (IntKind.wrap .u64 (a4)) (26 : Int))))))), .v (.one (.ptr 3 ⟨0, 0, 0, 0⟩)), .any, .v (.one (.sc (.int .i64 (0 : Int)))), .any, .any, .any, .any, .any, .any, .any, .any, .any, .any, .any, .any, .any, .any, .any, .any, .any, .any, .any, .any, .any, .any, .any, .any, .any, .any, .any, .any, .any, .any, .any, .any, .any, .any, .any, .any, .any, .any, .any, .any, .any, .any, .any, .any, .any, .any, .any, .any, .any, .any, .any, .any, .any, .any, .any, .any, .any, .any, .any, .any, .any, .any, .any, .any, .any, .any, .any, .any, .any, .any, .any, .any, .any, .any, .any, .any, .any, .any, .any, .any, .any, .any, .any, .any, .any, .any, .any, .any, .any, .any, .any, .any, .any, .any, .any], [.ex false [.row 16 (.int .u32) a0, .c (.sc (.int .u32 a1)), .c (.sc (.int .u32 a2)), .row 4 (.int .u64) a3] 27, .ex false [.row 16 (.int .u32) a0, .c (.sc (.int .u32 a1)), .c (.sc (.int .u32 (Int.tmod a2 (32 : Int)))), .row 4 (.int .u64) a3] 28, .ex false [.row 16 (.int .u32) t2.1, .c (.sc (.int .u32 t2.2.1)), .c (.sc (.int .u32 t2.2.2.1)), .row 4 (.int .u64) t2.2.2.2.1] 28, .ex false [.row 16 (.int .u32) t37.1, .c (.sc (.int .u32 t37.2.1)), .c (.sc (.int .u32 t37.2.2.1)), .row 4 (.int .u64) t37.2.2.2.1] 28], 0⟩ (fun e s => e = (.exit 0) ∧ s = ⟨[.any, .any, .any, .any, .any, .any, .any, .any, .any, .any, .any, .any, .any, .any, .any, .any, .any, .any, .any, .any, .any, .any, .any, .any, .any, .any, .any, .any, .any, .any, .any, .any, .any, .any, .any, .any, .any, .any, .any, .any, .any, .any, .any, .any, .any, .any, .any, .any, .any, .any, .any, .any, .any, .any, .any, .any, .any, .any, .any, .any, .any, .any, .any, .any, .any, .any, .any, .any, .any, .any, .any, .any, .any, .any, .any, .any, .any, .any, .any, .any, .any, .any, .any, .any, .any, .any, .any, .any, .any, .any, .any, .any, .any, .any, .any, .any, .any, .any, .any, .any, .any, .any, .any, .any, .any, .any, .any, .any, .any, .any, .any], [.ex false [.row 16 (.int .u32) a0, .c (.sc (.int .u32 a1)), .c (.sc (.int .u32 a2)), .row 4 (.int .u64) a3] 27, .ex false [.row 16 (.int .u32) a0, .c (.sc (.int .u32 a1)), .c (.sc (.int .u32 (Int.tmod a2 (32 : Int)))), .row 4 (.int .u64) a3] 28, .ex false [.row 16 (.int .u32) t2.1, .c (.sc (.int .u32 t2.2.1)), .c (.sc (.int .u32 t2.2.2.1)), .row 4 (.int .u64) t2.2.2.2.1] 28, .ex false [.row 16 (.int .u32) t37.1, .c (.sc (.int .u32 t37.2.1)), .c (.sc (.int .u32 t37.2.2.1)), .row 4 (.int .u64) t37.2.2.2.1] 28], 0⟩) ∧ (∃ t64 : Bool, (Fun cfg 7 [] [] (halterlaw10_sure.R t64) [] ∧ True) ∧ (True ∧ ((True) ∧ ((True) ∧ True) ∧ (.v (.one (.sc (.bool t64))) : Tm) = halterlaw10_RegsBack.R r ∧ ([] : List Box) = [])))) ∨ (∃ t65 : Unit, Trip cfg (.loop (cpath (Try.f4.body.getD .skip) [1, 1, 1, 1, 1, 1, 1, 1, 1, 1, 0, 1, 0, 0])) ⟨[.any, .any, .v (.one (.sc (.int .u32 a5))), .any, .any, .any, .any, .v (.one (.ptr 1 ⟨0, 0, 0, 0⟩)), .any, .any, .any, .any, .v (.one (.sc (.int .i64 (IntKind.wrap .i64 ((Int.tmod (IntKind.wrap .u64 (a4)) (26 : Int))))))), .v (.one (.ptr 3 ⟨0, 0, 0, 0⟩)), .any, .v (.one (.sc (.int .i64 (0 : Int)))), .any, .any, .any, .any, .any, .any, .any, .any, .any, .any, .any, .any, .any, .any, .any, .any, .any, .any, .any, .any, .any, .any, .any, .any, .any, .any, .any, .any, .any, .any, .any, .any, .any, .any, .any, .any, .any, .any, .any, .any, .any, .any, .any, .any, .any, .any, .any, .any, .any, .any, .any, .any, .any, .any, .any, .any, .any, .any, .any, .any, .any, .any, .any, .any, .any, .any, .any, .any, .any, .any, .any, .any, .any, .any, .any, .any, .any, .any, .any, .any, .any, .any, .any, .any, .any, .any, .any, .any, .any, .any, .any, .any, .any, .any, .any], [.ex false [.row 16 (.int .u32) a0, .c (.sc (.int .u32 a1)), .c (.sc (.int .u32 a2)), .row 4 (.int .u64) a3] 27, .ex false [.row 16 (.int .u32) a0, .c (.sc (.int .u32 a1)), .c (.sc (.int .u32 (Int.tmod a2 (32 : Int)))), .row 4 (.int .u64) a3] 28, .ex false [.row 16 (.int .u32) t2.1, .c (.sc (.int .u32 t2.2.1)), .c (.sc (.int .u32 t2.2.2.1)), .row 4 (.int .u64) t2.2.2.2.1] 28, .ex false [.row 16 (.int .u32) t37.1, .c (.sc (.int .u32 t37.2.1)), .c (.sc (.int .u32 t37.2.2.1)), .row 4 (.int .u64) t37.2.2.2.1] 28], 0⟩ (fun e s => e = .ret ∧ s = ⟨[.any, .any, .any, .any, .any, .any, .v (.one (.sc (.bool false))), .any, .any, .any, .any, .any, .any, .any, .any, .any, .any, .any, .any, .any, .any, .any, .any, .any, .any, .any, .any, .any, .any, .any, .any, .any, .any, .any, .any, .any, .any, .any, .any, .any, .any, .any, .any, .any, .any, .any, .any, .any, .any, .any, .any, .any, .any, .any, .any, .any, .any, .any, .any, .any, .any, .any, .any, .any, .any, .any, .any, .any, .any, .any, .any, .any, .any, .any, .any, .any, .any, .any, .any, .any, .any, .any, .any, .any, .any, .any, .any, .any, .any, .any, .any, .any, .any, .any, .any, .any, .any, .any, .any, .any, .any, .any, .any, .any, .any, .any, .any, .any, .any, .any, .any], [.ex false [.row 16 (.int .u32) a0, .c (.sc (.int .u32 a1)), .c (.sc (.int .u32 a2)), .row 4 (.int .u64) a3] 27, .ex false [.row 16 (.int .u32) a0, .c (.sc (.int .u32 a1)), .c (.sc (.int .u32 (Int.tmod a2 (32 : Int)))), .row 4 (.int .u64) a3] 28, .ex false [.row 16 (.int .u32) t2.1, .c (.sc (.int .u32 t2.2.1)), .c (.sc (.int .u32 t2.2.2.1)), .row 4 (.int .u64) t2.2.2.2.1] 28, .ex false [.row 16 (.int .u32) t37.1, .c (.sc (.int .u32 t37.2.1)), .c (.sc (.int .u32 t37.2.2.1)), .row 4 (.int .u64) t37.2.2.2.1] 28], 0⟩) ∧ ((True) ∧ ((True) ∧ True) ∧ (.v (.one (.sc (.bool false))) : Tm) = halterlaw10_RegsBack.R r ∧ ([] : List Box) = []))))))))))))))))) ∧ ((!((intsEq t2.1 a0) && ((t2.2.1 == a1) && ((t2.2.2.1 == (Int.tmod a2 (32 : Int))) && ((intsEq t2.2.2.2.1 a3) && true))))) = true → ((!((intsEq t2.1 a0) && ((t2.2.1 == a1) && ((t2.2.2.1 == (Int.tmod a2 (32 : Int))) && ((intsEq t2.2.2.2.1 a3) && true))))) = true ∧ ((!((intsEq t2.1 a0) && ((t2.2.1 == a1) && ((t2.2.2.1 == (Int.tmod a2 (32 : Int))) && ((intsEq t2.2.2.2.1 a3) && true))))) = true ∧ ((!((intsEq t2.1 a0) && ((t2.2.1 == a1) && ((t2.2.2.1 == (Int.tmod a2 (32 : Int))) && ((intsEq t2.2.2.2.1 a3) && true))))) = true ∧ (true = true ∧ (True ∧ (True ∧ ((True) ∧ ((True) ∧ True) ∧ (.v (.one (.sc (.bool false))) : Tm) = halterlaw10_RegsBack.R r ∧ ([] : List Box) = []))))))))))))) ∧ ((!(Option.isNone t2.2.2.2.2)) = true → ((!(Option.isNone t2.2.2.2.2)) = true ∧ ((!(Option.isNone t2.2.2.2.2)) = true ∧ ((!(Option.isNone t2.2.2.2.2)) = true ∧ (true = true ∧ (true = true ∧ (true = true ∧ (true = true ∧ (true = true ∧ (True ∧ (True ∧ ((True) ∧ ((True) ∧ True) ∧ (.v (.one (.sc (.bool false))) : Tm) = halterlaw10_RegsBack.R r ∧ ([] : List Box) = [])))))))))))))))) ∧ ((!(Option.isNone t1.2)) = true → ((!(Option.isNone t1.2)) = true ∧ ((!(Option.isNone t1.2)) = true ∧ (true = true ∧ (true = true ∧ (true = true ∧ (true = true ∧ (true = true ∧ (true = true ∧ (true = true ∧ (true = true ∧ (true = true ∧ (True ∧ (True ∧ ((True) ∧ ((True) ∧ True) ∧ (.v (.one (.sc (.bool false))) : Tm) = halterlaw10_RegsBack.R r ∧ ([] : List Box) = []))))))))))))))))))) (by kernel_rfl) ?_)
  refine ⟨trivial, ?_⟩
  refine ⟨trivial, ?_⟩
  refine ⟨trivial, ?_⟩
  refine ⟨(by decide), ?_⟩
  refine ⟨trivial, ?_⟩
  refine ⟨trivial, ?_⟩
  obtain ⟨t1, ht1, h⟩ := of_bind h
  refine ⟨t1, ⟨regs_Encode.fun_ ht1, trivial⟩, ?_⟩
  obtain ⟨t2, ht2, h⟩ := of_bind h
  refine ⟨t2, ⟨regs_Decode.fun_ ht2, trivial⟩, ?_⟩
  refine ⟨trivial, ?_⟩
  refine ⟨trivial, ?_⟩
  refine ⟨fun b3 => ?_, fun b3 => ?_⟩
  · rw [if_neg (not_not_intro (none_t (not_f b3)))] at h
    refine ⟨b3, ?_⟩
    refine ⟨trivial, ?_⟩
    refine ⟨b3, ?_⟩
    refine ⟨fun b4 => ?_, fun b4 => ?_⟩
    · rw [if_neg (not_not_intro (none_t (not_f b4)))] at h
      refine ⟨trivial, ?_⟩
      refine ⟨b4, ?_⟩
      refine ⟨trivial, ?_⟩
      refine ⟨b4, ?_⟩
      refine ⟨trivial, ?_⟩
      refine ⟨b4, ?_⟩
      refine ⟨fun b5 => ?_, fun b5 => ?_⟩
      · rw [if_neg (not_not_intro (and_t (fun h => (ints_t h)) (fun h => (and_t (fun h => (beq_t h)) (fun h => (and_t (fun h => (beq_t h)) (fun h => (ints_t (and_l h))) h)) h)) (not_f b5)))] at h
        refine ⟨b5, ?_⟩
        refine ⟨trivial, ?_⟩
        refine ⟨b5, ?_⟩
        refine ⟨trivial, ?_⟩
        refine ⟨b5, ?_⟩
        refine ⟨fun b6 => ?_, fun b6 => ?_⟩
        · rw [if_pos (bne_t b6)] at h
          refine ⟨trivial, ?_⟩
          refine ⟨trivial, ?_⟩
          obtain rfl := Option.some.inj h
          exact ⟨trivial, ⟨trivial, trivial⟩, rfl, rfl⟩
        · rw [if_neg (not_not_intro (bne_f b6))] at h
          refine ⟨trivial, ?_⟩
          refine ⟨(by decide), ?_⟩
          refine ⟨trivial, ?_⟩
          refine ⟨trivial, ?_⟩
          refine ⟨fun b7 => ?_, fun b7 => ?_⟩
          · rw [if_pos (beq_t b7)] at h
            refine ⟨(by decide), ?_⟩
            refine ⟨trivial, ?_⟩
            obtain ⟨t8, ht8, h⟩ := of_bind h
            refine ⟨t8, ⟨regs_Set.fun_ ht8, trivial⟩, ?_⟩
            refine ⟨trivial, ?_⟩
            refine ⟨trivial, ?_⟩
            refine ⟨fun b9 => ?_, fun b9 => ?_⟩
            · rw [if_pos (none_f (not_t b9))] at h
              refine ⟨trivial, ?_⟩
              refine ⟨trivial, ?_⟩
              obtain rfl := Option.some.inj h
              exact ⟨trivial, ⟨trivial, trivial⟩, rfl, rfl⟩
            · rw [if_neg (not_not_intro (none_t (not_f b9)))] at h
              refine ⟨trivial, ?_⟩
              refine ⟨trivial, ?_⟩
              obtain ⟨t22, ht22, h⟩ := of_bind h
              refine ⟨⟨trivial, trivial⟩, ?_⟩
              rcases t22 with t34 | t36
              · dsimp only at h
                left
                refine ⟨t34, Trip.loop FUEL (halterlaw10_RegsBack.l0_ok t2 t8 a0 a1 a2 a3 a4 a5 FUEL (0 : Int) (.inl t34) ht22), ?_⟩
                obtain ⟨t35, ht35, h⟩ := of_bind h
                refine ⟨t35, ⟨halterlaw10_sure.fun_ ht35, trivial⟩, ?_⟩
                refine ⟨trivial, ?_⟩
                obtain rfl := Option.some.inj h
                exact ⟨trivial, ⟨trivial, trivial⟩, rfl, rfl⟩
              · dsimp only at h
                right
                refine ⟨t36, Trip.loop FUEL (halterlaw10_RegsBack.l0_ok t2 t8 a0 a1 a2 a3 a4 a5 FUEL (0 : Int) (.inr t36) ht22), ?_⟩
                obtain rfl := Option.some.inj h
                exact ⟨trivial, ⟨trivial, trivial⟩, rfl, rfl⟩
          · rw [if_neg (beq_f b7)] at h
            refine ⟨trivial, ?_⟩
            obtain ⟨t37, ht37, h⟩ := of_bind h
            refine ⟨t37, ⟨regs_Set.fun_ ht37, trivial⟩, ?_⟩
            refine ⟨trivial, ?_⟩
            refine ⟨trivial, ?_⟩
            refine ⟨fun b38 => ?_, fun b38 => ?_⟩
            · rw [if_pos (none_f (not_t b38))] at h
              refine ⟨trivial, ?_⟩
              refine ⟨trivial, ?_⟩
              obtain rfl := Option.some.inj h
              exact ⟨trivial, ⟨trivial, trivial⟩, rfl, rfl⟩
            · rw [if_neg (not_not_intro (none_t (not_f b38)))] at h
              refine ⟨trivial, ?_⟩
              refine ⟨trivial, ?_⟩
              obtain ⟨t51, ht51, h⟩ := of_bind h
              refine ⟨⟨trivial, trivial⟩, ?_⟩
              rcases t51 with t63 | t65
              · dsimp only at h
                left
                refine ⟨t63, Trip.loop FUEL (halterlaw10_RegsBack.l1_ok t2 t37 a0 a1 a2 a3 a4 a5 FUEL (0 : Int) (.inl t63) ht51), ?_⟩
                obtain ⟨t64, ht64, h⟩ := of_bind h
                refine ⟨t64, ⟨halterlaw10_sure.fun_ ht64, trivial⟩, ?_⟩
                refine ⟨trivial, ?_⟩
                obtain rfl := Option.some.inj h
                exact ⟨trivial, ⟨trivial, trivial⟩, rfl, rfl⟩
              · dsimp only at h
                right
                refine ⟨t65, Trip.loop FUEL (halterlaw10_RegsBack.l1_ok t2 t37 a0 a1 a2 a3 a4 a5 FUEL (0 : Int) (.inr t65) ht51), ?_⟩
                obtain rfl := Option.some.inj h
                exact ⟨trivial, ⟨trivial, trivial⟩, rfl, rfl⟩
      · rw [if_pos (and_f (fun h => (ints_f h)) (fun h => (and_f (fun h => (beq_f h)) (fun h => (and_f (fun h => (beq_f h)) (fun h => (ints_f (and_l0 h))) h)) h)) (not_t b5))] at h
        refine ⟨b5, ?_⟩
        refine ⟨b5, ?_⟩
        refine ⟨b5, ?_⟩
        refine ⟨rfl, ?_⟩
        refine ⟨trivial, ?_⟩
        refine ⟨trivial, ?_⟩
        obtain rfl := Option.some.inj h
        exact ⟨trivial, ⟨trivial, trivial⟩, rfl, rfl⟩
    · rw [if_pos (none_f (not_t b4))] at h
      refine ⟨b4, ?_⟩
      refine ⟨b4, ?_⟩
      refine ⟨b4, ?_⟩
      refine ⟨rfl, ?_⟩
      refine ⟨rfl, ?_⟩
      refine ⟨rfl, ?_⟩
      refine ⟨rfl, ?_⟩
      refine ⟨rfl, ?_⟩
      refine ⟨trivial, ?_⟩
      refine ⟨trivial, ?_⟩
      obtain rfl := Option.some.inj h
      exact ⟨trivial, ⟨trivial, trivial⟩, rfl, rfl⟩
  · rw [if_pos (none_f (not_t b3))] at h
    refine ⟨b3, ?_⟩
    refine ⟨b3, ?_⟩
    refine ⟨rfl, ?_⟩
    refine ⟨rfl, ?_⟩
    refine ⟨rfl, ?_⟩
    refine ⟨rfl, ?_⟩
    refine ⟨rfl, ?_⟩
    refine ⟨rfl, ?_⟩
    refine ⟨rfl, ?_⟩
    refine ⟨rfl, ?_⟩
    refine ⟨rfl, ?_⟩
    refine ⟨trivial, ?_⟩
    refine ⟨trivial, ?_⟩
    obtain rfl := Option.some.inj h
    exact ⟨trivial, ⟨trivial, trivial⟩, rfl, rfl⟩
end Go.Proofs.YtfcdlkpoebjghaaGRegsBack
