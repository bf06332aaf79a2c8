/- Printed by gen.py: what functions of the program compute, in plain Lean, and that they do. -/
import Derived.Test.YtndjiebeihcbgaaDoorE15
import Derived.Test.YtndjiebeihcbgaaDoorN
set_option linter.unusedVariables false
set_option maxRecDepth 100000
set_option maxHeartbeats 4000000
namespace Go.Proofs.YtndjiebeihcbgaaDoorGSetLaws
open Go Go.Proofs.YtndjiebeihcbgaaDoorE
def tiL : List (Nat × TI) := [
  (3, ⟨1, 8, false, .int .i64, [.c (.sc (.int .i64 (0 : Int)))], some (.int .i64)⟩),
  (4, ⟨1, 1, false, .bool, [.c (.sc (.bool false))], some .bool⟩),
  (5, ⟨1, 1, false, .int .u8, [.c (.sc (.int .u8 (0 : Int)))], some (.int .u8)⟩),
  (9, ⟨1, 16, false, .str, [.c (.sc (.string ByteArray.empty))], some .str⟩),
  (22, ⟨1, 4, false, .int .u32, [.c (.sc (.int .u32 (0 : Int)))], some (.int .u32)⟩),
  (23, ⟨1, 4, false, .int .u32, [.c (.sc (.int .u32 (0 : Int)))], some (.int .u32)⟩),
  (24, ⟨1, 24, false, (.slice 3), [.c (.sc (.slice none 0 0))], some (.sl (.int .i64))⟩),
  (36, ⟨1, 8, false, .int .u64, [.c (.sc (.int .u64 (0 : Int)))], some (.int .u64)⟩),
  (38, ⟨1, 16, false, .iface, [.c (.err none)], none⟩),
  (51, ⟨1, 8, false, .int .i64, [.c (.sc (.int .i64 (0 : Int)))], some (.int .i64)⟩),
  (52, ⟨1, 8, false, .int .u64, [.c (.sc (.int .u64 (0 : Int)))], some (.int .u64)⟩),
  (55, ⟨1, 24, false, (.slice 5), [.c (.sc (.slice none 0 0))], some (.sl (.int .u8))⟩),
  (58, ⟨32, 32, true, (.array 32 5), [.row 32 (.int .u8) (List.replicate 32 (0 : Int))], some (.arr 32 (.int .u8))⟩),
  (72, ⟨1, 8, false, .int .i64, [.c (.sc (.int .i64 (0 : Int)))], some (.int .i64)⟩)]
def tab0 : List Int := [0, 1, 28, 2, 29, 14, 24, 3, 30, 22, 20, 15, 25, 17, 4, 8, 31, 27, 13, 23, 21, 19, 16, 7, 26, 12, 18, 6, 11, 5, 10, 9]
def tab4 : List Int := [1, 10, 100, 1000, 10000, 100000, 1000000, 10000000, 100000000, 1000000000, 10000000000, 100000000000, 1000000000000, 10000000000000, 100000000000000, 1000000000000000, 10000000000000000, 100000000000000000, 1000000000000000000, 10000000000000000000]
def tab5 : List Int := [0, 1, 56, 2, 57, 49, 28, 3, 61, 58, 42, 50, 38, 29, 17, 4, 62, 47, 59, 36, 45, 43, 51, 22, 53, 39, 33, 30, 24, 18, 12, 5, 63, 55, 48, 27, 60, 41, 37, 16, 46, 35, 44, 21, 52, 32, 23, 11, 54, 26, 40, 15, 34, 20, 31, 10, 25, 14, 19, 9, 13, 8, 7, 6]
def tabs : List (Nat × IntKind × List Int) := [(0, .u8, tab0), (4, .u64, tab4), (5, .u8, tab5)]
noncomputable def cfg : Cfg := ⟨Tryd.prog, 51, [] ++ tabs.flatMap tabG, tiL, [], tabs⟩
theorem cfg_ok : COk cfg := by
  refine ⟨fun p hp => ?_, by kernel_rfl, fun p hp => ?_, fun t ht => ?_, fun x hx y hy => List.mem_append_right _ (List.mem_flatMap.2 ⟨x, hx, hy⟩)⟩
  · simp only [cfg, tiL, List.mem_cons, List.not_mem_nil, or_false] at hp
    rcases hp with rfl | rfl | rfl | rfl | rfl | rfl | rfl | rfl | rfl | rfl | rfl | rfl | rfl | rfl <;> exact ⟨by kernel_rfl, by kernel_rfl, by kernel_rfl, by kernel_rfl, by kernel_rfl, by kernel_rfl⟩
  · simp only [cfg, tiL, List.mem_cons, List.not_mem_nil, or_false] at hp
    rcases hp with rfl | rfl | rfl | rfl | rfl | rfl | rfl | rfl | rfl | rfl | rfl | rfl | rfl | rfl <;> intro fs hfs bl hbl
    · cases hfs
    · cases hfs
    · cases hfs
    · cases hfs
    · cases hfs
    · cases hfs
    · cases hfs
    · cases hfs
    · cases hfs
    · cases hfs
    · cases hfs
    · cases hfs
    · cases hfs
    · cases hfs
  · cases ht
def fin : Scr → List Adj
  | .adj l _ => l
  | _ => []
/-! halter/sigset.One -/
def sigset_One.f (a0 : Int) : Option Int :=
  if a0 < (1 : Int) then
    some (0 : Int)
  else
    if a0 > (31 : Int) then
      some (0 : Int)
    else
      if 0 ≤ (IntKind.wrap .i64 (a0 - (1 : Int))) then
        some (shl .u32 (1 : Int) (IntKind.wrap .i64 (a0 - (1 : Int))))
      else none
def sigset_One.R (r : Int) : Tm := .v (.one (.sc (.int .u32 r)))
theorem sigset_One.fun_ {a0 : Int} {r : Int} (h : sigset_One.f a0 = some r) : Fun cfg 14 [.one (.sc (.int .i64 a0))] [] (sigset_One.R r) [] := by
  unfold sigset_One.f at h
  refine fun_of_run cfg_ok (f := 14) (fn := Tryd.f14) Tryd.func14 rfl (by kernel_rfl) (rs := [.tmp 2]) rfl (nt := 12) rfl (l := fin) (k := (.br (.one true (.one true (.one true (.adj [] (.adj [] (.adj [] .nil)))))) (.one false (.one false (.br (.adj [] (.adj [] (.adj [] .nil))) (.adj [] (.adj [] (.adj [] (.adj [] .nil))))))))) (to_goal (q := (True) ∧ (((decide (a0 < (1 : Int))) = false → ((decide (a0 < (1 : Int))) = false ∧ (True) ∧ ((decide (a0 < (1 : Int))) = false ∧ (((decide (a0 > (31 : Int))) = true → (True ∧ (True ∧ ((True) ∧ (True) ∧ (.v (.one (.sc (.int .u32 (0 : Int)))) : Tm) = sigset_One.R r ∧ ([] : List Box) = [])))) ∧ ((decide (a0 > (31 : Int))) = false → (True ∧ (True ∧ (True) ∧ (0 ≤ (IntKind.wrap .i64 (a0 - (1 : Int)))) ∧ (True ∧ ((True) ∧ (True) ∧ (.v (.one (.sc (.int .u32 (shl .u32 (1 : Int) (IntKind.wrap .i64 (a0 - (1 : Int))))))) : Tm) = sigset_One.R r ∧ ([] : List Box) = []))))))))) ∧ ((decide (a0 < (1 : Int))) = true → ((decide (a0 < (1 : Int))) = true ∧ ((decide (a0 < (1 : Int))) = true ∧ (true = true ∧ (True ∧ (True ∧ ((True) ∧ (True) ∧ (.v (.one (.sc (.int .u32 (0 : Int)))) : Tm) = sigset_One.R r ∧ ([] : List Box) = []))))))))) (by kernel_rfl) ?_)
  refine ⟨trivial, ?_⟩
  refine ⟨fun b1 => ?_, fun b1 => ?_⟩
  · rw [if_neg (of_decide_eq_false b1)] at h
    refine ⟨b1, ?_⟩
    refine ⟨trivial, ?_⟩
    refine ⟨b1, ?_⟩
    refine ⟨fun b2 => ?_, fun b2 => ?_⟩
    · rw [if_pos (of_decide_eq_true b2)] at h
      refine ⟨trivial, ?_⟩
      refine ⟨trivial, ?_⟩
      obtain rfl := Option.some.inj h
      exact ⟨trivial, trivial, rfl, rfl⟩
    · rw [if_neg (of_decide_eq_false b2)] at h
      refine ⟨trivial, ?_⟩
      refine ⟨trivial, ?_⟩
      refine ⟨trivial, ?_⟩
      obtain ⟨g3, h⟩ := of_guard h
      refine ⟨g3, ?_⟩
      refine ⟨trivial, ?_⟩
      obtain rfl := Option.some.inj h
      exact ⟨trivial, trivial, rfl, rfl⟩
  · rw [if_pos (of_decide_eq_true b1)] at h
    refine ⟨b1, ?_⟩
    refine ⟨b1, ?_⟩
    refine ⟨rfl, ?_⟩
    refine ⟨trivial, ?_⟩
    refine ⟨trivial, ?_⟩
    obtain rfl := Option.some.inj h
    exact ⟨trivial, trivial, rfl, rfl⟩
/-! halter/sigset.Add -/
def sigset_Add.f (a0 : Int) (a1 : Int) : Option Int :=
  (sigset_One.f a1).bind fun t1 =>
  some (bits .or .u32 (bits .and .u32 a0 (2147483647 : Int)) t1)
def sigset_Add.R (r : Int) : Tm := .v (.one (.sc (.int .u32 r)))
theorem sigset_Add.fun_ {a0 : Int} {a1 : Int} {r : Int} (h : sigset_Add.f a0 a1 = some r) : Fun cfg 8 [.one (.sc (.int .u32 a0)), .one (.sc (.int .i64 a1))] [] (sigset_Add.R r) [] := by
  unfold sigset_Add.f at h
  refine fun_of_run cfg_ok (f := 8) (fn := Tryd.f8) Tryd.func8 rfl (by kernel_rfl) (rs := [.tmp 4]) rfl (nt := 10) rfl (l := fin) (k := (.call true [] (Int) (fun t1 => sigset_One.R t1) (fun t1 => (.adj [] (.adj [] .nil))))) (to_goal (q := (True) ∧ (∃ t1 : Int, (Fun cfg 14 [.one (.sc (.int .i64 a1))] [] (sigset_One.R t1) [] ∧ True) ∧ (True) ∧ (True ∧ ((True) ∧ (True) ∧ (.v (.one (.sc (.int .u32 (bits .or .u32 (bits .and .u32 a0 (2147483647 : Int)) t1)))) : Tm) = sigset_Add.R r ∧ ([] : List Box) = [])))) (by kernel_rfl) ?_)
  refine ⟨trivial, ?_⟩
  obtain ⟨t1, ht1, h⟩ := of_bind h
  refine ⟨t1, ⟨sigset_One.fun_ ht1, trivial⟩, ?_⟩
  refine ⟨trivial, ?_⟩
  refine ⟨trivial, ?_⟩
  obtain rfl := Option.some.inj h
  exact ⟨trivial, trivial, rfl, rfl⟩
/-! halter/sigset.Del -/
def sigset_Del.f (a0 : Int) (a1 : Int) : Option Int :=
  (sigset_One.f a1).bind fun t1 =>
  some (bits .andNot .u32 (bits .and .u32 a0 (2147483647 : Int)) t1)
def sigset_Del.R (r : Int) : Tm := .v (.one (.sc (.int .u32 r)))
theorem sigset_Del.fun_ {a0 : Int} {a1 : Int} {r : Int} (h : sigset_Del.f a0 a1 = some r) : Fun cfg 10 [.one (.sc (.int .u32 a0)), .one (.sc (.int .i64 a1))] [] (sigset_Del.R r) [] := by
  unfold sigset_Del.f at h
  refine fun_of_run cfg_ok (f := 10) (fn := Tryd.f10) Tryd.func10 rfl (by kernel_rfl) (rs := [.tmp 4]) rfl (nt := 10) rfl (l := fin) (k := (.call true [] (Int) (fun t1 => sigset_One.R t1) (fun t1 => (.adj [] (.adj [] .nil))))) (to_goal (q := (True) ∧ (∃ t1 : Int, (Fun cfg 14 [.one (.sc (.int .i64 a1))] [] (sigset_One.R t1) [] ∧ True) ∧ (True) ∧ (True ∧ ((True) ∧ (True) ∧ (.v (.one (.sc (.int .u32 (bits .andNot .u32 (bits .and .u32 a0 (2147483647 : Int)) t1)))) : Tm) = sigset_Del.R r ∧ ([] : List Box) = [])))) (by kernel_rfl) ?_)
  refine ⟨trivial, ?_⟩
  obtain ⟨t1, ht1, h⟩ := of_bind h
  refine ⟨t1, ⟨sigset_One.fun_ ht1, trivial⟩, ?_⟩
  refine ⟨trivial, ?_⟩
  refine ⟨trivial, ?_⟩
  obtain rfl := Option.some.inj h
  exact ⟨trivial, trivial, rfl, rfl⟩
/-! halter/sigset.Has -/
def sigset_Has.f (a0 : Int) (a1 : Int) : Option Bool :=
  (sigset_One.f a1).bind fun t1 =>
  some ((bits .and .u32 a0 t1) != (0 : Int))
def sigset_Has.R (r : Bool) : Tm := .v (.one (.sc (.bool r)))
theorem sigset_Has.fun_ {a0 : Int} {a1 : Int} {r : Bool} (h : sigset_Has.f a0 a1 = some r) : Fun cfg 12 [.one (.sc (.int .u32 a0)), .one (.sc (.int .i64 a1))] [] (sigset_Has.R r) [] := by
  unfold sigset_Has.f at h
  refine fun_of_run cfg_ok (f := 12) (fn := Tryd.f12) Tryd.func12 rfl (by kernel_rfl) (rs := [.tmp 4]) rfl (nt := 10) rfl (l := fin) (k := (.call true [] (Int) (fun t1 => sigset_One.R t1) (fun t1 => (.adj [] (.adj [] .nil))))) (to_goal (q := (∃ t1 : Int, (Fun cfg 14 [.one (.sc (.int .i64 a1))] [] (sigset_One.R t1) [] ∧ True) ∧ (True) ∧ (True) ∧ (True ∧ ((True) ∧ (True) ∧ (.v (.one (.sc (.bool ((bits .and .u32 a0 t1) != (0 : Int))))) : Tm) = sigset_Has.R r ∧ ([] : List Box) = [])))) (by kernel_rfl) ?_)
  obtain ⟨t1, ht1, h⟩ := of_bind h
  refine ⟨t1, ⟨sigset_One.fun_ ht1, trivial⟩, ?_⟩
  refine ⟨trivial, ?_⟩
  refine ⟨trivial, ?_⟩
  refine ⟨trivial, ?_⟩
  obtain rfl := Option.some.inj h
  exact ⟨trivial, trivial, rfl, rfl⟩
/-! halter/sigset.Text -/
def sigset_Text.l0 (a0 : Int) : Nat → (List Int) → Int → Option (List Int)
  | 0, _, _ => none
  | n + 1, x7, x8 =>
    if x8 < (8 : Int) then
      if 0 ≤ (IntKind.wrap .i64 ((4 : Int) * (IntKind.wrap .i64 ((7 : Int) - x8)))) then
        if 0 ≤ (bits .and .u32 (shr .u32 (bits .and .u32 a0 (2147483647 : Int)) (IntKind.wrap .i64 ((4 : Int) * (IntKind.wrap .i64 ((7 : Int) - x8))))) (15 : Int)) ∧ (bits .and .u32 (shr .u32 (bits .and .u32 a0 (2147483647 : Int)) (IntKind.wrap .i64 ((4 : Int) * (IntKind.wrap .i64 ((7 : Int) - x8))))) (15 : Int)) < (((ByteArray.size (⟨#[48, 49, 50, 51, 52, 53, 54, 55, 56, 57, 97, 98, 99, 100, 101, 102]⟩ : ByteArray)) : Nat) : Int) then
          if 0 ≤ x8 ∧ x8 < ((8 : Nat) : Int) then
            if (0 + (Int.toNat x8)) < 8 then
              sigset_Text.l0 a0 n (List.set x7 (0 + (Int.toNat x8)) (bt (⟨#[48, 49, 50, 51, 52, 53, 54, 55, 56, 57, 97, 98, 99, 100, 101, 102]⟩ : ByteArray) (bits .and .u32 (shr .u32 (bits .and .u32 a0 (2147483647 : Int)) (IntKind.wrap .i64 ((4 : Int) * (IntKind.wrap .i64 ((7 : Int) - x8))))) (15 : Int)))) (IntKind.wrap .i64 (x8 + (1 : Int)))
            else none
          else none
        else none
      else none
    else
      some x7
def sigset_Text.l0_S (a0 : Int) (x7 : List Int) (x8 : Int) : St := ⟨[.v (.one (.sc (.int .u32 a0))), .any, .any, .v (.one (.os 0 0 0 1 8 none)), .any, .any, .any, .v (.one (.sc (.int .i64 (8 : Int)))), .v (.one (.sc (.int .i64 x8))), .any, .any, .any, .any, .any, .any, .any, .any, .any, .any, .any, .any, .any, .any, .any, .any], [.ex false [.row 8 (.int .u8) x7] 5], 0⟩
def sigset_Text.l0_Q (a0 : Int) (t : (List Int)) : Exit → St → Prop := fun e s => e = (.exit 0) ∧ s = ⟨[.any, .any, .any, .v (.one (.os 0 0 0 1 8 none)), .any, .any, .any, .any, .any, .any, .any, .any, .any, .any, .any, .any, .any, .any, .any, .any, .any, .any, .any, .any, .any], [.ex false [.row 8 (.int .u8) t] 5], 0⟩
theorem sigset_Text.l0_ok (a0 : Int) : ∀ (n : Nat) (x7 : List Int) (x8 : Int) (r : (List Int)), sigset_Text.l0 a0 n x7 x8 = some r → TripN cfg (cpath (Tryd.f22.body.getD .skip) [1, 1, 0, 1, 0, 0]) n (sigset_Text.l0_S a0 x7 x8) (sigset_Text.l0_Q a0 r) := by
  intro n
  induction n with
  | zero => intro x7 x8 r h; cases h
  | succ n ih =>
    intro x7 x8 r h
    rw [sigset_Text.l0] at h
    refine TripN.of_run cfg_ok (k := (.br (.adj [] (.adj [] (.adj [] (.adj [] (.adj [] (.adj [.keep [0, 3, 7, 8], .drop 1] .nil)))))) (.adj [.keep [3], .drop 1] .nil))) (to_goal (q := (True) ∧ (((decide (x8 < (8 : Int))) = true → (True ∧ (True ∧ (True ∧ (True ∧ (True) ∧ (True) ∧ (True) ∧ (0 ≤ (IntKind.wrap .i64 ((4 : Int) * (IntKind.wrap .i64 ((7 : Int) - x8))))) ∧ (True) ∧ (0 ≤ (bits .and .u32 (shr .u32 (bits .and .u32 a0 (2147483647 : Int)) (IntKind.wrap .i64 ((4 : Int) * (IntKind.wrap .i64 ((7 : Int) - x8))))) (15 : Int)) ∧ (bits .and .u32 (shr .u32 (bits .and .u32 a0 (2147483647 : Int)) (IntKind.wrap .i64 ((4 : Int) * (IntKind.wrap .i64 ((7 : Int) - x8))))) (15 : Int)) < (((ByteArray.size (⟨#[48, 49, 50, 51, 52, 53, 54, 55, 56, 57, 97, 98, 99, 100, 101, 102]⟩ : ByteArray)) : Nat) : Int)) ∧ (0 ≤ x8 ∧ x8 < ((8 : Nat) : Int)) ∧ ((0 + (Int.toNat x8)) < 8) ∧ (True ∧ (True) ∧ (((True) ∧ (True) ∧ True) ∧ TripN cfg (cpath (Tryd.f22.body.getD .skip) [1, 1, 0, 1, 0, 0]) n (sigset_Text.l0_S a0 (List.set x7 (0 + (Int.toNat x8)) (bt (⟨#[48, 49, 50, 51, 52, 53, 54, 55, 56, 57, 97, 98, 99, 100, 101, 102]⟩ : ByteArray) (bits .and .u32 (shr .u32 (bits .and .u32 a0 (2147483647 : Int)) (IntKind.wrap .i64 ((4 : Int) * (IntKind.wrap .i64 ((7 : Int) - x8))))) (15 : Int)))) (IntKind.wrap .i64 (x8 + (1 : Int)))) (sigset_Text.l0_Q a0 r)))))))) ∧ ((decide (x8 < (8 : Int))) = false → (((True) ∧ (True) ∧ True) ∧ sigset_Text.l0_Q a0 r (.exit 0) ⟨[.any, .any, .any, .v (.one (.os 0 0 0 1 8 none)), .any, .any, .any, .any, .any, .any, .any, .any, .any, .any, .any, .any, .any, .any, .any, .any, .any, .any, .any, .any, .any], [.ex false [.row 8 (.int .u8) x7] 5], 0⟩)))) (by kernel_rfl) ?_)
    refine ⟨trivial, ?_⟩
    refine ⟨fun b16 => ?_, fun b16 => ?_⟩
    · rw [if_pos (of_decide_eq_true b16)] at h
      refine ⟨trivial, ?_⟩
      refine ⟨trivial, ?_⟩
      refine ⟨trivial, ?_⟩
      refine ⟨trivial, ?_⟩
      refine ⟨trivial, ?_⟩
      refine ⟨trivial, ?_⟩
      refine ⟨trivial, ?_⟩
      obtain ⟨g20, h⟩ := of_guard h
      refine ⟨g20, ?_⟩
      refine ⟨trivial, ?_⟩
      obtain ⟨g19, h⟩ := of_guard h
      refine ⟨g19, ?_⟩
      obtain ⟨g18, h⟩ := of_guard h
      refine ⟨g18, ?_⟩
      obtain ⟨g17, h⟩ := of_guard h
      refine ⟨g17, ?_⟩
      refine ⟨trivial, ?_⟩
      refine ⟨trivial, ?_⟩
      exact ⟨⟨trivial, trivial, trivial⟩, ih (List.set x7 (0 + (Int.toNat x8)) (bt (⟨#[48, 49, 50, 51, 52, 53, 54, 55, 56, 57, 97, 98, 99, 100, 101, 102]⟩ : ByteArray) (bits .and .u32 (shr .u32 (bits .and .u32 a0 (2147483647 : Int)) (IntKind.wrap .i64 ((4 : Int) * (IntKind.wrap .i64 ((7 : Int) - x8))))) (15 : Int)))) (IntKind.wrap .i64 (x8 + (1 : Int))) r h⟩
    · rw [if_neg (of_decide_eq_false b16)] at h
      obtain rfl := Option.some.inj h
      exact ⟨⟨trivial, trivial, trivial⟩, rfl, rfl⟩
def sigset_Text.f (a0 : Int) : Option ByteArray :=
  (sigset_Text.l0 a0 FUEL (List.replicate 8 (0 : Int)) (0 : Int)).bind fun t15 =>
  some (strOfNums (List.take 8 t15))
def sigset_Text.R (r : ByteArray) : Tm := .v (.one (.sc (.string r)))
theorem sigset_Text.fun_ {a0 : Int} {r : ByteArray} (h : sigset_Text.f a0 = some r) : Fun cfg 22 [.one (.sc (.int .u32 a0))] [] (sigset_Text.R r) [] := by
  unfold sigset_Text.f at h
  refine fun_of_run cfg_ok (f := 22) (fn := Tryd.f22) Tryd.func22 rfl (by kernel_rfl) (rs := [.tmp 2]) rfl (nt := 25) rfl (l := fin) (k := (.d .no (.adj [] (.adj [] (.adj [.keep [0, 3, 7, 8], .nocap] (.sub ((List Int)) (fun _ => (.exit 0)) (fun t15 => ⟨[.any, .any, .any, .v (.one (.os 0 0 0 1 8 none)), .any, .any, .any, .any, .any, .any, .any, .any, .any, .any, .any, .any, .any, .any, .any, .any, .any, .any, .any, .any, .any], [.ex false [.row 8 (.int .u8) t15] 5], 0⟩) (fun t15 => (.d (.b false) (.adj [] (.adj [.drop 0] .nil)))))))))) (to_goal (q := (0 ≤ (8 : Int) ∧ (8 : Int) = (8 : Int) ∧ (1 : Int) * (8 : Int) ≤ 281474976710656 ∧ (8 : Int) ≤ 9223372036854775807) ∧ (True ∧ (True) ∧ (True ∧ (((True) ∧ (True) ∧ True) ∧ (∃ t15 : (List Int), Trip cfg (.loop (cpath (Tryd.f22.body.getD .skip) [1, 1, 0, 1, 0, 0])) ⟨[.v (.one (.sc (.int .u32 a0))), .any, .any, .v (.one (.os 0 0 0 1 8 none)), .any, .any, .any, .v (.one (.sc (.int .i64 (8 : Int)))), .v (.one (.sc (.int .i64 (0 : Int)))), .any, .any, .any, .any, .any, .any, .any, .any, .any, .any, .any, .any, .any, .any, .any, .any], [.ex false [.row 8 (.int .u8) (List.replicate 8 (0 : Int))] 5], 0⟩ (fun e s => e = (.exit 0) ∧ s = ⟨[.any, .any, .any, .v (.one (.os 0 0 0 1 8 none)), .any, .any, .any, .any, .any, .any, .any, .any, .any, .any, .any, .any, .any, .any, .any, .any, .any, .any, .any, .any, .any], [.ex false [.row 8 (.int .u8) t15] 5], 0⟩) ∧ (0 + 8 ≤ 8) ∧ (True ∧ ((True) ∧ ((True) ∧ True) ∧ (.v (.one (.sc (.string (strOfNums (List.take 8 t15))))) : Tm) = sigset_Text.R r ∧ ([] : List Box) = []))))))) (by kernel_rfl) ?_)
  refine ⟨(by decide), ?_⟩
  refine ⟨trivial, ?_⟩
  refine ⟨trivial, ?_⟩
  refine ⟨trivial, ?_⟩
  obtain ⟨t15, ht15, h⟩ := of_bind h
  refine ⟨⟨trivial, trivial, trivial⟩, t15, Trip.loop FUEL (sigset_Text.l0_ok a0 FUEL (List.replicate 8 (0 : Int)) (0 : Int) t15 ht15), ?_⟩
  refine ⟨(by decide), ?_⟩
  refine ⟨trivial, ?_⟩
  obtain rfl := Option.some.inj h
  exact ⟨trivial, ⟨trivial, trivial⟩, rfl, rfl⟩
/-! internal/strconv.lower -/
def internal_strconv_lower.f (a0 : Int) : Option Int :=
  some (bits .or .u8 a0 (32 : Int))
def internal_strconv_lower.R (r : Int) : Tm := .v (.one (.sc (.int .u8 r)))
theorem internal_strconv_lower.fun_ {a0 : Int} {r : Int} (h : internal_strconv_lower.f a0 = some r) : Fun cfg 36 [.one (.sc (.int .u8 a0))] [] (internal_strconv_lower.R r) [] := by
  unfold internal_strconv_lower.f at h
  refine fun_of_run cfg_ok (f := 36) (fn := Tryd.f36) Tryd.func36 rfl (by kernel_rfl) (rs := [.tmp 2]) rfl (nt := 5) rfl (l := fin) (k := (.adj [] (.adj [] (.adj [] (.adj [] .nil))))) (to_goal (q := (True ∧ (True ∧ (True) ∧ (True ∧ ((True) ∧ (True) ∧ (.v (.one (.sc (.int .u8 (bits .or .u8 a0 (32 : Int))))) : Tm) = internal_strconv_lower.R r ∧ ([] : List Box) = []))))) (by kernel_rfl) ?_)
  refine ⟨trivial, ?_⟩
  refine ⟨trivial, ?_⟩
  refine ⟨trivial, ?_⟩
  refine ⟨trivial, ?_⟩
  obtain rfl := Option.some.inj h
  exact ⟨trivial, trivial, rfl, rfl⟩
/-! internal/strconv.ParseUint -/
def internal_strconv_ParseUint.c0 (x3 : Int) (a0 : ByteArray) (x4 : Int) : Bool := (decide ((IntKind.wrap .u64 ((IntKind.wrap .u64 (x3 * (16 : Int))) + (IntKind.wrap .u64 ((IntKind.wrap .u8 ((List.getD (bytesOf a0) (0 + (Int.toNat x4)) (0 : Int)) - (48 : Int))))))) > (IntKind.wrap .u64 ((shl .u64 (1 : Int) (32 : Int)) - (1 : Int)))))
def internal_strconv_ParseUint.c1 (x3 : Int) (t106 : Int) : Bool := (decide ((IntKind.wrap .u64 ((IntKind.wrap .u64 (x3 * (16 : Int))) + (IntKind.wrap .u64 ((IntKind.wrap .u8 ((IntKind.wrap .u8 (t106 - (97 : Int))) + (10 : Int))))))) > (IntKind.wrap .u64 ((shl .u64 (1 : Int) (32 : Int)) - (1 : Int)))))
def internal_strconv_ParseUint.c2 (x3 : Int) (t73 : Int) : Bool := (decide ((IntKind.wrap .u64 ((IntKind.wrap .u64 (x3 * (16 : Int))) + (IntKind.wrap .u64 ((IntKind.wrap .u8 ((IntKind.wrap .u8 (t73 - (97 : Int))) + (10 : Int))))))) > (IntKind.wrap .u64 ((shl .u64 (1 : Int) (32 : Int)) - (1 : Int)))))
def internal_strconv_ParseUint.c3 (x3 : Int) (t82 : Int) : Bool := (decide ((IntKind.wrap .u64 ((IntKind.wrap .u64 (x3 * (16 : Int))) + (IntKind.wrap .u64 ((IntKind.wrap .u8 ((IntKind.wrap .u8 (t82 - (97 : Int))) + (10 : Int))))))) > (IntKind.wrap .u64 ((shl .u64 (1 : Int) (32 : Int)) - (1 : Int)))))
def internal_strconv_ParseUint.c4 (x3 : Int) (t97 : Int) : Bool := (decide ((IntKind.wrap .u64 ((IntKind.wrap .u64 (x3 * (16 : Int))) + (IntKind.wrap .u64 ((IntKind.wrap .u8 ((IntKind.wrap .u8 (t97 - (97 : Int))) + (10 : Int))))))) > (IntKind.wrap .u64 ((shl .u64 (1 : Int) (32 : Int)) - (1 : Int)))))
def internal_strconv_ParseUint.c5 (x3 : Int) (a0 : ByteArray) (x4 : Int) : Bool := (decide ((IntKind.wrap .u64 ((IntKind.wrap .u64 (x3 * (16 : Int))) + (IntKind.wrap .u64 ((IntKind.wrap .u8 ((List.getD (bytesOf a0) (0 + (Int.toNat x4)) (0 : Int)) - (48 : Int))))))) < (IntKind.wrap .u64 (x3 * (16 : Int)))))
def internal_strconv_ParseUint.c6 (x3 : Int) (t106 : Int) : Bool := (decide ((IntKind.wrap .u64 ((IntKind.wrap .u64 (x3 * (16 : Int))) + (IntKind.wrap .u64 ((IntKind.wrap .u8 ((IntKind.wrap .u8 (t106 - (97 : Int))) + (10 : Int))))))) < (IntKind.wrap .u64 (x3 * (16 : Int)))))
def internal_strconv_ParseUint.c7 (x3 : Int) (t73 : Int) : Bool := (decide ((IntKind.wrap .u64 ((IntKind.wrap .u64 (x3 * (16 : Int))) + (IntKind.wrap .u64 ((IntKind.wrap .u8 ((IntKind.wrap .u8 (t73 - (97 : Int))) + (10 : Int))))))) < (IntKind.wrap .u64 (x3 * (16 : Int)))))
def internal_strconv_ParseUint.c8 (x3 : Int) (t82 : Int) : Bool := (decide ((IntKind.wrap .u64 ((IntKind.wrap .u64 (x3 * (16 : Int))) + (IntKind.wrap .u64 ((IntKind.wrap .u8 ((IntKind.wrap .u8 (t82 - (97 : Int))) + (10 : Int))))))) < (IntKind.wrap .u64 (x3 * (16 : Int)))))
def internal_strconv_ParseUint.c9 (x3 : Int) (t97 : Int) : Bool := (decide ((IntKind.wrap .u64 ((IntKind.wrap .u64 (x3 * (16 : Int))) + (IntKind.wrap .u64 ((IntKind.wrap .u8 ((IntKind.wrap .u8 (t97 - (97 : Int))) + (10 : Int))))))) < (IntKind.wrap .u64 (x3 * (16 : Int)))))
def internal_strconv_ParseUint.l0 (a0 : ByteArray) : Nat → Bool → Int → Int → Option ((Bool × Int) ⊕ (Int))
  | 0, _, _, _ => none
  | n + 1, x2, x3, x4 =>
    if x4 < (((List.length (bytesOf a0)) : Nat) : Int) then
      if 0 ≤ x4 ∧ x4 < (((List.length (bytesOf a0)) : Nat) : Int) then
        if (0 + (Int.toNat x4)) < (List.length (bytesOf a0)) then
          if (List.getD (bytesOf a0) (0 + (Int.toNat x4)) (0 : Int)) = (95 : Int) then
            if (48 : Int) ≤ (List.getD (bytesOf a0) (0 + (Int.toNat x4)) (0 : Int)) then
              if (List.getD (bytesOf a0) (0 + (Int.toNat x4)) (0 : Int)) ≤ (57 : Int) then
                if (IntKind.wrap .u8 ((List.getD (bytesOf a0) (0 + (Int.toNat x4)) (0 : Int)) - (48 : Int))) ≥ (16 : Int) then
                  some (.inr (0 : Int))
                else
                  if x3 ≥ (1152921504606846976 : Int) then
                    some (.inr (IntKind.wrap .u64 ((shl .u64 (1 : Int) (32 : Int)) - (1 : Int))))
                  else
                    if (IntKind.wrap .u64 ((IntKind.wrap .u64 (x3 * (16 : Int))) + (IntKind.wrap .u64 ((IntKind.wrap .u8 ((List.getD (bytesOf a0) (0 + (Int.toNat x4)) (0 : Int)) - (48 : Int))))))) < (IntKind.wrap .u64 (x3 * (16 : Int))) then
                      some (.inr (IntKind.wrap .u64 ((shl .u64 (1 : Int) (32 : Int)) - (1 : Int))))
                    else
                      if (IntKind.wrap .u64 ((IntKind.wrap .u64 (x3 * (16 : Int))) + (IntKind.wrap .u64 ((IntKind.wrap .u8 ((List.getD (bytesOf a0) (0 + (Int.toNat x4)) (0 : Int)) - (48 : Int))))))) > (IntKind.wrap .u64 ((shl .u64 (1 : Int) (32 : Int)) - (1 : Int))) then
                        some (.inr (IntKind.wrap .u64 ((shl .u64 (1 : Int) (32 : Int)) - (1 : Int))))
                      else
                        internal_strconv_ParseUint.l0 a0 n x2 (IntKind.wrap .u64 ((IntKind.wrap .u64 (x3 * (16 : Int))) + (IntKind.wrap .u64 ((IntKind.wrap .u8 ((List.getD (bytesOf a0) (0 + (Int.toNat x4)) (0 : Int)) - (48 : Int))))))) (IntKind.wrap .i64 (x4 + (1 : Int)))
              else
                (internal_strconv_lower.f (List.getD (bytesOf a0) (0 + (Int.toNat x4)) (0 : Int))).bind fun t69 =>
                if (97 : Int) ≤ t69 then
                  (internal_strconv_lower.f (List.getD (bytesOf a0) (0 + (Int.toNat x4)) (0 : Int))).bind fun t71 =>
                  if t71 ≤ (122 : Int) then
                    (internal_strconv_lower.f (List.getD (bytesOf a0) (0 + (Int.toNat x4)) (0 : Int))).bind fun t73 =>
                    if (IntKind.wrap .u8 ((IntKind.wrap .u8 (t73 - (97 : Int))) + (10 : Int))) ≥ (16 : Int) then
                      some (.inr (0 : Int))
                    else
                      if x3 ≥ (1152921504606846976 : Int) then
                        some (.inr (IntKind.wrap .u64 ((shl .u64 (1 : Int) (32 : Int)) - (1 : Int))))
                      else
                        if (IntKind.wrap .u64 ((IntKind.wrap .u64 (x3 * (16 : Int))) + (IntKind.wrap .u64 ((IntKind.wrap .u8 ((IntKind.wrap .u8 (t73 - (97 : Int))) + (10 : Int))))))) < (IntKind.wrap .u64 (x3 * (16 : Int))) then
                          some (.inr (IntKind.wrap .u64 ((shl .u64 (1 : Int) (32 : Int)) - (1 : Int))))
                        else
                          if (IntKind.wrap .u64 ((IntKind.wrap .u64 (x3 * (16 : Int))) + (IntKind.wrap .u64 ((IntKind.wrap .u8 ((IntKind.wrap .u8 (t73 - (97 : Int))) + (10 : Int))))))) > (IntKind.wrap .u64 ((shl .u64 (1 : Int) (32 : Int)) - (1 : Int))) then
                            some (.inr (IntKind.wrap .u64 ((shl .u64 (1 : Int) (32 : Int)) - (1 : Int))))
                          else
                            internal_strconv_ParseUint.l0 a0 n x2 (IntKind.wrap .u64 ((IntKind.wrap .u64 (x3 * (16 : Int))) + (IntKind.wrap .u64 ((IntKind.wrap .u8 ((IntKind.wrap .u8 (t73 - (97 : Int))) + (10 : Int))))))) (IntKind.wrap .i64 (x4 + (1 : Int)))
                  else
                    some (.inr (0 : Int))
                else
                  some (.inr (0 : Int))
            else
              (internal_strconv_lower.f (List.getD (bytesOf a0) (0 + (Int.toNat x4)) (0 : Int))).bind fun t78 =>
              if (97 : Int) ≤ t78 then
                (internal_strconv_lower.f (List.getD (bytesOf a0) (0 + (Int.toNat x4)) (0 : Int))).bind fun t80 =>
                if t80 ≤ (122 : Int) then
                  (internal_strconv_lower.f (List.getD (bytesOf a0) (0 + (Int.toNat x4)) (0 : Int))).bind fun t82 =>
                  if (IntKind.wrap .u8 ((IntKind.wrap .u8 (t82 - (97 : Int))) + (10 : Int))) ≥ (16 : Int) then
                    some (.inr (0 : Int))
                  else
                    if x3 ≥ (1152921504606846976 : Int) then
                      some (.inr (IntKind.wrap .u64 ((shl .u64 (1 : Int) (32 : Int)) - (1 : Int))))
                    else
                      if (IntKind.wrap .u64 ((IntKind.wrap .u64 (x3 * (16 : Int))) + (IntKind.wrap .u64 ((IntKind.wrap .u8 ((IntKind.wrap .u8 (t82 - (97 : Int))) + (10 : Int))))))) < (IntKind.wrap .u64 (x3 * (16 : Int))) then
                        some (.inr (IntKind.wrap .u64 ((shl .u64 (1 : Int) (32 : Int)) - (1 : Int))))
                      else
                        if (IntKind.wrap .u64 ((IntKind.wrap .u64 (x3 * (16 : Int))) + (IntKind.wrap .u64 ((IntKind.wrap .u8 ((IntKind.wrap .u8 (t82 - (97 : Int))) + (10 : Int))))))) > (IntKind.wrap .u64 ((shl .u64 (1 : Int) (32 : Int)) - (1 : Int))) then
                          some (.inr (IntKind.wrap .u64 ((shl .u64 (1 : Int) (32 : Int)) - (1 : Int))))
                        else
                          internal_strconv_ParseUint.l0 a0 n x2 (IntKind.wrap .u64 ((IntKind.wrap .u64 (x3 * (16 : Int))) + (IntKind.wrap .u64 ((IntKind.wrap .u8 ((IntKind.wrap .u8 (t82 - (97 : Int))) + (10 : Int))))))) (IntKind.wrap .i64 (x4 + (1 : Int)))
                else
                  some (.inr (0 : Int))
              else
                some (.inr (0 : Int))
          else
            if (48 : Int) ≤ (List.getD (bytesOf a0) (0 + (Int.toNat x4)) (0 : Int)) then
              if (List.getD (bytesOf a0) (0 + (Int.toNat x4)) (0 : Int)) ≤ (57 : Int) then
                if (IntKind.wrap .u8 ((List.getD (bytesOf a0) (0 + (Int.toNat x4)) (0 : Int)) - (48 : Int))) ≥ (16 : Int) then
                  some (.inr (0 : Int))
                else
                  if x3 ≥ (1152921504606846976 : Int) then
                    some (.inr (IntKind.wrap .u64 ((shl .u64 (1 : Int) (32 : Int)) - (1 : Int))))
                  else
                    if (IntKind.wrap .u64 ((IntKind.wrap .u64 (x3 * (16 : Int))) + (IntKind.wrap .u64 ((IntKind.wrap .u8 ((List.getD (bytesOf a0) (0 + (Int.toNat x4)) (0 : Int)) - (48 : Int))))))) < (IntKind.wrap .u64 (x3 * (16 : Int))) then
                      some (.inr (IntKind.wrap .u64 ((shl .u64 (1 : Int) (32 : Int)) - (1 : Int))))
                    else
                      if (IntKind.wrap .u64 ((IntKind.wrap .u64 (x3 * (16 : Int))) + (IntKind.wrap .u64 ((IntKind.wrap .u8 ((List.getD (bytesOf a0) (0 + (Int.toNat x4)) (0 : Int)) - (48 : Int))))))) > (IntKind.wrap .u64 ((shl .u64 (1 : Int) (32 : Int)) - (1 : Int))) then
                        some (.inr (IntKind.wrap .u64 ((shl .u64 (1 : Int) (32 : Int)) - (1 : Int))))
                      else
                        internal_strconv_ParseUint.l0 a0 n x2 (IntKind.wrap .u64 ((IntKind.wrap .u64 (x3 * (16 : Int))) + (IntKind.wrap .u64 ((IntKind.wrap .u8 ((List.getD (bytesOf a0) (0 + (Int.toNat x4)) (0 : Int)) - (48 : Int))))))) (IntKind.wrap .i64 (x4 + (1 : Int)))
              else
                (internal_strconv_lower.f (List.getD (bytesOf a0) (0 + (Int.toNat x4)) (0 : Int))).bind fun t93 =>
                if (97 : Int) ≤ t93 then
                  (internal_strconv_lower.f (List.getD (bytesOf a0) (0 + (Int.toNat x4)) (0 : Int))).bind fun t95 =>
                  if t95 ≤ (122 : Int) then
                    (internal_strconv_lower.f (List.getD (bytesOf a0) (0 + (Int.toNat x4)) (0 : Int))).bind fun t97 =>
                    if (IntKind.wrap .u8 ((IntKind.wrap .u8 (t97 - (97 : Int))) + (10 : Int))) ≥ (16 : Int) then
                      some (.inr (0 : Int))
                    else
                      if x3 ≥ (1152921504606846976 : Int) then
                        some (.inr (IntKind.wrap .u64 ((shl .u64 (1 : Int) (32 : Int)) - (1 : Int))))
                      else
                        if (IntKind.wrap .u64 ((IntKind.wrap .u64 (x3 * (16 : Int))) + (IntKind.wrap .u64 ((IntKind.wrap .u8 ((IntKind.wrap .u8 (t97 - (97 : Int))) + (10 : Int))))))) < (IntKind.wrap .u64 (x3 * (16 : Int))) then
                          some (.inr (IntKind.wrap .u64 ((shl .u64 (1 : Int) (32 : Int)) - (1 : Int))))
                        else
                          if (IntKind.wrap .u64 ((IntKind.wrap .u64 (x3 * (16 : Int))) + (IntKind.wrap .u64 ((IntKind.wrap .u8 ((IntKind.wrap .u8 (t97 - (97 : Int))) + (10 : Int))))))) > (IntKind.wrap .u64 ((shl .u64 (1 : Int) (32 : Int)) - (1 : Int))) then
                            some (.inr (IntKind.wrap .u64 ((shl .u64 (1 : Int) (32 : Int)) - (1 : Int))))
                          else
                            internal_strconv_ParseUint.l0 a0 n x2 (IntKind.wrap .u64 ((IntKind.wrap .u64 (x3 * (16 : Int))) + (IntKind.wrap .u64 ((IntKind.wrap .u8 ((IntKind.wrap .u8 (t97 - (97 : Int))) + (10 : Int))))))) (IntKind.wrap .i64 (x4 + (1 : Int)))
                  else
                    some (.inr (0 : Int))
                else
                  some (.inr (0 : Int))
            else
              (internal_strconv_lower.f (List.getD (bytesOf a0) (0 + (Int.toNat x4)) (0 : Int))).bind fun t102 =>
              if (97 : Int) ≤ t102 then
                (internal_strconv_lower.f (List.getD (bytesOf a0) (0 + (Int.toNat x4)) (0 : Int))).bind fun t104 =>
                if t104 ≤ (122 : Int) then
                  (internal_strconv_lower.f (List.getD (bytesOf a0) (0 + (Int.toNat x4)) (0 : Int))).bind fun t106 =>
                  if (IntKind.wrap .u8 ((IntKind.wrap .u8 (t106 - (97 : Int))) + (10 : Int))) ≥ (16 : Int) then
                    some (.inr (0 : Int))
                  else
                    if x3 ≥ (1152921504606846976 : Int) then
                      some (.inr (IntKind.wrap .u64 ((shl .u64 (1 : Int) (32 : Int)) - (1 : Int))))
                    else
                      if (IntKind.wrap .u64 ((IntKind.wrap .u64 (x3 * (16 : Int))) + (IntKind.wrap .u64 ((IntKind.wrap .u8 ((IntKind.wrap .u8 (t106 - (97 : Int))) + (10 : Int))))))) < (IntKind.wrap .u64 (x3 * (16 : Int))) then
                        some (.inr (IntKind.wrap .u64 ((shl .u64 (1 : Int) (32 : Int)) - (1 : Int))))
                      else
                        if (IntKind.wrap .u64 ((IntKind.wrap .u64 (x3 * (16 : Int))) + (IntKind.wrap .u64 ((IntKind.wrap .u8 ((IntKind.wrap .u8 (t106 - (97 : Int))) + (10 : Int))))))) > (IntKind.wrap .u64 ((shl .u64 (1 : Int) (32 : Int)) - (1 : Int))) then
                          some (.inr (IntKind.wrap .u64 ((shl .u64 (1 : Int) (32 : Int)) - (1 : Int))))
                        else
                          internal_strconv_ParseUint.l0 a0 n x2 (IntKind.wrap .u64 ((IntKind.wrap .u64 (x3 * (16 : Int))) + (IntKind.wrap .u64 ((IntKind.wrap .u8 ((IntKind.wrap .u8 (t106 - (97 : Int))) + (10 : Int))))))) (IntKind.wrap .i64 (x4 + (1 : Int)))
                else
                  some (.inr (0 : Int))
              else
                some (.inr (0 : Int))
        else none
      else none
    else
      some (.inl (x2, x3))
def internal_strconv_ParseUint.l0_S (a0 : ByteArray) (x2 : Bool) (x3 : Int) (x4 : Int) : St := ⟨[.any, .v (.one (.sc (.int .i64 (16 : Int)))), .any, .any, .any, .any, .any, .any, .v (.one (.sc (.bool false))), .v (.one (.sc (.string a0))), .v (.one (.sc (.int .u64 (1152921504606846976 : Int)))), .v (.one (.sc (.int .u64 (IntKind.wrap .u64 ((shl .u64 (1 : Int) (32 : Int)) - (1 : Int)))))), .v (.one (.sc (.bool x2))), .v (.one (.sc (.int .u64 x3))), .any, .any, .any, .any, .any, .any, .any, .any, .any, .any, .any, .any, .any, .any, .any, .any, .any, .any, .any, .any, .any, .any, .any, .any, .any, .any, .any, .any, .any, .any, .any, .any, .any, .any, .any, .any, .any, .any, .any, .any, .any, .any, .any, .any, .any, .any, .any, .any, .any, .any, .any, .any, .any, .any, .any, .any, .any, .any, .any, .any, .any, .any, .any, .any, .any, .any, .any, .any, .any, .any, .any, .any, .any, .any, .any, .any, .any, .any, .any, .any, .any, .any, .any, .any, .any, .v (.one (.os 0 0 0 1 (List.length (bytesOf a0)) none)), .v (.one (.sc (.int .i64 (((List.length (bytesOf a0)) : Nat) : Int)))), .v (.one (.sc (.int .i64 x4))), .any, .any, .any, .any, .any, .any, .any, .any, .any, .any, .any, .any, .any, .any, .any, .any, .any, .any, .any, .any, .any, .any, .any, .any, .any, .any, .any, .any, .any, .any, .any, .any, .any, .any, .any, .any, .any, .any, .any, .any, .any, .any, .any, .any, .any, .any, .any, .any, .any, .any, .any, .any, .any, .any, .any, .any, .any, .any, .any, .any, .any, .any, .any, .any, .any, .any, .any, .any, .any, .any], [.gro false (.int .u8) (bytesOf a0) 5], 0⟩
def internal_strconv_ParseUint.l0_Q (a0 : ByteArray) : (Bool × Int) ⊕ (Int) → Exit → St → Prop
  | .inl t => fun e s => e = (.exit 3) ∧ s = ⟨[.any, .any, .any, .any, .any, .any, .any, .any, .any, .v (.one (.sc (.string a0))), .any, .any, .v (.one (.sc (.bool t.1))), .v (.one (.sc (.int .u64 t.2))), .any, .any, .any, .any, .any, .any, .any, .any, .any, .any, .any, .any, .any, .any, .any, .any, .any, .any, .any, .any, .any, .any, .any, .any, .any, .any, .any, .any, .any, .any, .any, .any, .any, .any, .any, .any, .any, .any, .any, .any, .any, .any, .any, .any, .any, .any, .any, .any, .any, .any, .any, .any, .any, .any, .any, .any, .any, .any, .any, .any, .any, .any, .any, .any, .any, .any, .any, .any, .any, .any, .any, .any, .any, .any, .any, .any, .any, .any, .any, .any, .any, .any, .any, .any, .any, .any, .any, .any, .any, .any, .any, .any, .any, .any, .any, .any, .any, .any, .any, .any, .any, .any, .any, .any, .any, .any, .any, .any, .any, .any, .any, .any, .any, .any, .any, .any, .any, .any, .any, .any, .any, .any, .any, .any, .any, .any, .any, .any, .any, .any, .any, .any, .any, .any, .any, .any, .any, .any, .any, .any, .any, .any, .any, .any, .any, .any, .any, .any, .any, .any, .any, .any, .any, .any, .any, .any, .any, .any], [.gro false (.int .u8) (bytesOf a0) 5], 0⟩
  | .inr t => fun e s => e = .ret ∧ s = ⟨[.any, .any, .any, .any, .any, .any, .v (.one (.sc (.int .u64 t))), .v (.one (.oerr)), .any, .any, .any, .any, .any, .any, .any, .any, .any, .any, .any, .any, .any, .any, .any, .any, .any, .any, .any, .any, .any, .any, .any, .any, .any, .any, .any, .any, .any, .any, .any, .any, .any, .any, .any, .any, .any, .any, .any, .any, .any, .any, .any, .any, .any, .any, .any, .any, .any, .any, .any, .any, .any, .any, .any, .any, .any, .any, .any, .any, .any, .any, .any, .any, .any, .any, .any, .any, .any, .any, .any, .any, .any, .any, .any, .any, .any, .any, .any, .any, .any, .any, .any, .any, .any, .any, .any, .any, .any, .any, .any, .any, .any, .any, .any, .any, .any, .any, .any, .any, .any, .any, .any, .any, .any, .any, .any, .any, .any, .any, .any, .any, .any, .any, .any, .any, .any, .any, .any, .any, .any, .any, .any, .any, .any, .any, .any, .any, .any, .any, .any, .any, .any, .any, .any, .any, .any, .any, .any, .any, .any, .any, .any, .any, .any, .any, .any, .any, .any, .any, .any, .any, .any, .any, .any, .any, .any, .any, .any, .any, .any, .any, .any, .any], [.gro false (.int .u8) (bytesOf a0) 5], 0⟩
theorem internal_strconv_ParseUint.l0_ok (a0 : ByteArray) : ∀ (n : Nat) (x2 : Bool) (x3 : Int) (x4 : Int) (r : (Bool × Int) ⊕ (Int)), internal_strconv_ParseUint.l0 a0 n x2 x3 x4 = some r → TripN cfg (cpath (Tryd.f30.body.getD .skip) [1, 1, 1, 1, 1, 1, 1, 1, 1, 1, 1, 0, 1, 0, 0]) n (internal_strconv_ParseUint.l0_S a0 x2 x3 x4) (internal_strconv_ParseUint.l0_Q a0 r) := by
  intro n
  induction n with
  | zero => intro x2 x3 x4 r h; cases h
  | succ n ih =>
    intro x2 x3 x4 r h
    rw [internal_strconv_ParseUint.l0] at h
    refine TripN.of_run cfg_ok (k := (.br (.br (.one true (.one false (.br (.one true (.one true (.br (.br (.adj [] (.adj [.keep [6, 7], .drop 1] .nil)) (.br (.adj [] (.adj [.keep [6, 7], .drop 1] .nil)) (.br (.one true (.one true (.one true (.one true (.adj [] (.adj [.keep [6, 7], .drop 1] .nil)))))) (.one false (.one false (.one false (.br (.adj [] (.adj [.keep [6, 7], .drop 1] .nil)) (.adj [] (.adj [] (.adj [] (.adj [.keep [1, 8, 9, 10, 11, 12, 13, 99, 100, 101], .drop 1] .nil))))))))))) (.call true [] (Int) (fun t69 => internal_strconv_lower.R t69) (fun t69 => (.br (.one true (.call true [] (Int) (fun t71 => internal_strconv_lower.R t71) (fun t71 => (.one true (.one true (.br (.call true [] (Int) (fun t73 => internal_strconv_lower.R t73) (fun t73 => (.br (.adj [] (.adj [.keep [6, 7], .drop 1] .nil)) (.br (.adj [] (.adj [.keep [6, 7], .drop 1] .nil)) (.br (.one true (.one true (.one true (.one true (.adj [] (.adj [.keep [6, 7], .drop 1] .nil)))))) (.one false (.one false (.one false (.br (.adj [] (.adj [.keep [6, 7], .drop 1] .nil)) (.adj [] (.adj [] (.adj [] (.adj [.keep [1, 8, 9, 10, 11, 12, 13, 99, 100, 101], .drop 1] .nil))))))))))))) (.adj [] (.adj [.keep [6, 7], .drop 1] .nil)))))))) (.one false (.one false (.one false (.one false (.adj [] (.adj [.keep [6, 7], .drop 1] .nil)))))))))))) (.one false (.one false (.one false (.call true [] (Int) (fun t78 => internal_strconv_lower.R t78) (fun t78 => (.br (.one true (.call true [] (Int) (fun t80 => internal_strconv_lower.R t80) (fun t80 => (.one true (.one true (.br (.call true [] (Int) (fun t82 => internal_strconv_lower.R t82) (fun t82 => (.br (.adj [] (.adj [.keep [6, 7], .drop 1] .nil)) (.br (.adj [] (.adj [.keep [6, 7], .drop 1] .nil)) (.br (.one true (.one true (.one true (.one true (.adj [] (.adj [.keep [6, 7], .drop 1] .nil)))))) (.one false (.one false (.one false (.br (.adj [] (.adj [.keep [6, 7], .drop 1] .nil)) (.adj [] (.adj [] (.adj [] (.adj [.keep [1, 8, 9, 10, 11, 12, 13, 99, 100, 101], .drop 1] .nil))))))))))))) (.adj [] (.adj [.keep [6, 7], .drop 1] .nil)))))))) (.one false (.one false (.one false (.one false (.adj [] (.adj [.keep [6, 7], .drop 1] .nil))))))))))))))) (.one false (.one false (.br (.one true (.one true (.br (.br (.adj [] (.adj [.keep [6, 7], .drop 1] .nil)) (.br (.adj [] (.adj [.keep [6, 7], .drop 1] .nil)) (.br (.one true (.one true (.one true (.one true (.adj [] (.adj [.keep [6, 7], .drop 1] .nil)))))) (.one false (.one false (.one false (.br (.adj [] (.adj [.keep [6, 7], .drop 1] .nil)) (.adj [] (.adj [] (.adj [] (.adj [.keep [1, 8, 9, 10, 11, 12, 13, 99, 100, 101], .drop 1] .nil))))))))))) (.call true [] (Int) (fun t93 => internal_strconv_lower.R t93) (fun t93 => (.br (.one true (.call true [] (Int) (fun t95 => internal_strconv_lower.R t95) (fun t95 => (.one true (.one true (.br (.call true [] (Int) (fun t97 => internal_strconv_lower.R t97) (fun t97 => (.br (.adj [] (.adj [.keep [6, 7], .drop 1] .nil)) (.br (.adj [] (.adj [.keep [6, 7], .drop 1] .nil)) (.br (.one true (.one true (.one true (.one true (.adj [] (.adj [.keep [6, 7], .drop 1] .nil)))))) (.one false (.one false (.one false (.br (.adj [] (.adj [.keep [6, 7], .drop 1] .nil)) (.adj [] (.adj [] (.adj [] (.adj [.keep [1, 8, 9, 10, 11, 12, 13, 99, 100, 101], .drop 1] .nil))))))))))))) (.adj [] (.adj [.keep [6, 7], .drop 1] .nil)))))))) (.one false (.one false (.one false (.one false (.adj [] (.adj [.keep [6, 7], .drop 1] .nil)))))))))))) (.one false (.one false (.one false (.call true [] (Int) (fun t102 => internal_strconv_lower.R t102) (fun t102 => (.br (.one true (.call true [] (Int) (fun t104 => internal_strconv_lower.R t104) (fun t104 => (.one true (.one true (.br (.call true [] (Int) (fun t106 => internal_strconv_lower.R t106) (fun t106 => (.br (.adj [] (.adj [.keep [6, 7], .drop 1] .nil)) (.br (.adj [] (.adj [.keep [6, 7], .drop 1] .nil)) (.br (.one true (.one true (.one true (.one true (.adj [] (.adj [.keep [6, 7], .drop 1] .nil)))))) (.one false (.one false (.one false (.br (.adj [] (.adj [.keep [6, 7], .drop 1] .nil)) (.adj [] (.adj [] (.adj [] (.adj [.keep [1, 8, 9, 10, 11, 12, 13, 99, 100, 101], .drop 1] .nil))))))))))))) (.adj [] (.adj [.keep [6, 7], .drop 1] .nil)))))))) (.one false (.one false (.one false (.one false (.adj [] (.adj [.keep [6, 7], .drop 1] .nil)))))))))))))))) (.adj [.keep [9, 12, 13], .drop 1] .nil))) (to_goal (q := (True) ∧ (((decide (x4 < (((List.length (bytesOf a0)) : Nat) : Int))) = true → (0 ≤ x4 ∧ x4 < (((List.length (bytesOf a0)) : Nat) : Int)) ∧ ((0 + (Int.toNat x4)) < (List.length (bytesOf a0))) ∧ (True) ∧ ((((List.getD (bytesOf a0) (0 + (Int.toNat x4)) (0 : Int)) == (95 : Int)) = true → (((List.getD (bytesOf a0) (0 + (Int.toNat x4)) (0 : Int)) == (95 : Int)) = true ∧ (false = false ∧ (True) ∧ (((decide ((48 : Int) ≤ (List.getD (bytesOf a0) (0 + (Int.toNat x4)) (0 : Int)))) = true → ((decide ((48 : Int) ≤ (List.getD (bytesOf a0) (0 + (Int.toNat x4)) (0 : Int)))) = true ∧ (True) ∧ ((decide ((48 : Int) ≤ (List.getD (bytesOf a0) (0 + (Int.toNat x4)) (0 : Int)))) = true ∧ (((decide ((List.getD (bytesOf a0) (0 + (Int.toNat x4)) (0 : Int)) ≤ (57 : Int))) = true → (True) ∧ (True) ∧ (True) ∧ (((decide ((IntKind.wrap .u8 ((List.getD (bytesOf a0) (0 + (Int.toNat x4)) (0 : Int)) - (48 : Int))) ≥ (16 : Int))) = true → (True ∧ (((True) ∧ (True) ∧ True) ∧ internal_strconv_ParseUint.l0_Q a0 r .ret ⟨[.any, .any, .any, .any, .any, .any, .v (.one (.sc (.int .u64 (0 : Int)))), .v (.one (.oerr)), .any, .any, .any, .any, .any, .any, .any, .any, .any, .any, .any, .any, .any, .any, .any, .any, .any, .any, .any, .any, .any, .any, .any, .any, .any, .any, .any, .any, .any, .any, .any, .any, .any, .any, .any, .any, .any, .any, .any, .any, .any, .any, .any, .any, .any, .any, .any, .any, .any, .any, .any, .any, .any, .any, .any, .any, .any, .any, .any, .any, .any, .any, .any, .any, .any, .any, .any, .any, .any, .any, .any, .any, .any, .any, .any, .any, .any, .any, .any, .any, .any, .any, .any, .any, .any, .any, .any, .any, .any, .any, .any, .any, .any, .any, .any, .any, .any, .any, .any, .any, .any, .any, .any, .any, .any, .any, .any, .any, .any, .any, .any, .any, .any, .any, .any, .any, .any, .any, .any, .any, .any, .any, .any, .any, .any, .any, .any, .any, .any, .any, .any, .any, .any, .any, .any, .any, .any, .any, .any, .any, .any, .any, .any, .any, .any, .any, .any, .any, .any, .any, .any, .any, .any, .any, .any, .any, .any, .any, .any, .any, .any, .any, .any, .any], [.gro false (.int .u8) (bytesOf a0) 5], 0⟩))) ∧ ((decide ((IntKind.wrap .u8 ((List.getD (bytesOf a0) (0 + (Int.toNat x4)) (0 : Int)) - (48 : Int))) ≥ (16 : Int))) = false → (True) ∧ (((decide (x3 ≥ (1152921504606846976 : Int))) = true → (True ∧ (((True) ∧ (True) ∧ True) ∧ internal_strconv_ParseUint.l0_Q a0 r .ret ⟨[.any, .any, .any, .any, .any, .any, .v (.one (.sc (.int .u64 (IntKind.wrap .u64 ((shl .u64 (1 : Int) (32 : Int)) - (1 : Int)))))), .v (.one (.oerr)), .any, .any, .any, .any, .any, .any, .any, .any, .any, .any, .any, .any, .any, .any, .any, .any, .any, .any, .any, .any, .any, .any, .any, .any, .any, .any, .any, .any, .any, .any, .any, .any, .any, .any, .any, .any, .any, .any, .any, .any, .any, .any, .any, .any, .any, .any, .any, .any, .any, .any, .any, .any, .any, .any, .any, .any, .any, .any, .any, .any, .any, .any, .any, .any, .any, .any, .any, .any, .any, .any, .any, .any, .any, .any, .any, .any, .any, .any, .any, .any, .any, .any, .any, .any, .any, .any, .any, .any, .any, .any, .any, .any, .any, .any, .any, .any, .any, .any, .any, .any, .any, .any, .any, .any, .any, .any, .any, .any, .any, .any, .any, .any, .any, .any, .any, .any, .any, .any, .any, .any, .any, .any, .any, .any, .any, .any, .any, .any, .any, .any, .any, .any, .any, .any, .any, .any, .any, .any, .any, .any, .any, .any, .any, .any, .any, .any, .any, .any, .any, .any, .any, .any, .any, .any, .any, .any, .any, .any, .any, .any, .any, .any, .any, .any], [.gro false (.int .u8) (bytesOf a0) 5], 0⟩))) ∧ ((decide (x3 ≥ (1152921504606846976 : Int))) = false → (True) ∧ (True) ∧ (True) ∧ (True) ∧ (True) ∧ (((internal_strconv_ParseUint.c5 x3 a0 x4) = false → ((internal_strconv_ParseUint.c5 x3 a0 x4) = false ∧ ((internal_strconv_ParseUint.c5 x3 a0 x4) = false ∧ (True) ∧ ((internal_strconv_ParseUint.c5 x3 a0 x4) = false ∧ (((internal_strconv_ParseUint.c0 x3 a0 x4) = true → (True ∧ (((True) ∧ (True) ∧ True) ∧ internal_strconv_ParseUint.l0_Q a0 r .ret ⟨[.any, .any, .any, .any, .any, .any, .v (.one (.sc (.int .u64 (IntKind.wrap .u64 ((shl .u64 (1 : Int) (32 : Int)) - (1 : Int)))))), .v (.one (.oerr)), .any, .any, .any, .any, .any, .any, .any, .any, .any, .any, .any, .any, .any, .any, .any, .any, .any, .any, .any, .any, .any, .any, .any, .any, .any, .any, .any, .any, .any, .any, .any, .any, .any, .any, .any, .any, .any, .any, .any, .any, .any, .any, .any, .any, .any, .any, .any, .any, .any, .any, .any, .any, .any, .any, .any, .any, .any, .any, .any, .any, .any, .any, .any, .any, .any, .any, .any, .any, .any, .any, .any, .any, .any, .any, .any, .any, .any, .any, .any, .any, .any, .any, .any, .any, .any, .any, .any, .any, .any, .any, .any, .any, .any, .any, .any, .any, .any, .any, .any, .any, .any, .any, .any, .any, .any, .any, .any, .any, .any, .any, .any, .any, .any, .any, .any, .any, .any, .any, .any, .any, .any, .any, .any, .any, .any, .any, .any, .any, .any, .any, .any, .any, .any, .any, .any, .any, .any, .any, .any, .any, .any, .any, .any, .any, .any, .any, .any, .any, .any, .any, .any, .any, .any, .any, .any, .any, .any, .any, .any, .any, .any, .any, .any, .any], [.gro false (.int .u8) (bytesOf a0) 5], 0⟩))) ∧ ((internal_strconv_ParseUint.c0 x3 a0 x4) = false → (True ∧ (True ∧ (True ∧ (True) ∧ (((True) ∧ (True) ∧ True) ∧ TripN cfg (cpath (Tryd.f30.body.getD .skip) [1, 1, 1, 1, 1, 1, 1, 1, 1, 1, 1, 0, 1, 0, 0]) n (internal_strconv_ParseUint.l0_S a0 x2 (IntKind.wrap .u64 ((IntKind.wrap .u64 (x3 * (16 : Int))) + (IntKind.wrap .u64 ((IntKind.wrap .u8 ((List.getD (bytesOf a0) (0 + (Int.toNat x4)) (0 : Int)) - (48 : Int))))))) (IntKind.wrap .i64 (x4 + (1 : Int)))) (internal_strconv_ParseUint.l0_Q a0 r))))))))))) ∧ ((internal_strconv_ParseUint.c5 x3 a0 x4) = true → ((internal_strconv_ParseUint.c5 x3 a0 x4) = true ∧ ((internal_strconv_ParseUint.c5 x3 a0 x4) = true ∧ ((internal_strconv_ParseUint.c5 x3 a0 x4) = true ∧ (true = true ∧ (True ∧ (((True) ∧ (True) ∧ True) ∧ internal_strconv_ParseUint.l0_Q a0 r .ret ⟨[.any, .any, .any, .any, .any, .any, .v (.one (.sc (.int .u64 (IntKind.wrap .u64 ((shl .u64 (1 : Int) (32 : Int)) - (1 : Int)))))), .v (.one (.oerr)), .any, .any, .any, .any, .any, .any, .any, .any, .any, .any, .any, .any, .any, .any, .any, .any, .any, .any, .any, .any, .any, .any, .any, .any, .any, .any, .any, .any, .any, .any, .any, .any, .any, .any, .any, .any, .any, .any, .any, .any, .any, .any, .any, .any, .any, .any, .any, .any, .any, .any, .any, .any, .any, .any, .any, .any, .any, .any, .any, .any, .any, .any, .any, .any, .any, .any, .any, .any, .any, .any, .any, .any, .any, .any, .any, .any, .any, .any, .any, .any, .any, .any, .any, .any, .any, .any, .any, .any, .any, .any, .any, .any, .any, .any, .any, .any, .any, .any, .any, .any, .any, .any, .any, .any, .any, .any, .any, .any, .any, .any, .any, .any, .any, .any, .any, .any, .any, .any, .any, .any, .any, .any, .any, .any, .any, .any, .any, .any, .any, .any, .any, .any, .any, .any, .any, .any, .any, .any, .any, .any, .any, .any, .any, .any, .any, .any, .any, .any, .any, .any, .any, .any, .any, .any, .any, .any, .any, .any, .any, .any, .any, .any, .any, .any], [.gro false (.int .u8) (bytesOf a0) 5], 0⟩))))))))))))) ∧ ((decide ((List.getD (bytesOf a0) (0 + (Int.toNat x4)) (0 : Int)) ≤ (57 : Int))) = false → (∃ t69 : Int, (Fun cfg 36 [.one (.sc (.int .u8 (List.getD (bytesOf a0) (0 + (Int.toNat x4)) (0 : Int))))] [] (internal_strconv_lower.R t69) [] ∧ True) ∧ (True) ∧ (((decide ((97 : Int) ≤ t69)) = true → ((decide ((97 : Int) ≤ t69)) = true ∧ (∃ t71 : Int, (Fun cfg 36 [.one (.sc (.int .u8 (List.getD (bytesOf a0) (0 + (Int.toNat x4)) (0 : Int))))] [] (internal_strconv_lower.R t71) [] ∧ True) ∧ ((decide ((97 : Int) ≤ t69)) = true ∧ (True) ∧ ((decide ((97 : Int) ≤ t69)) = true ∧ (((decide (t71 ≤ (122 : Int))) = true → (∃ t73 : Int, (Fun cfg 36 [.one (.sc (.int .u8 (List.getD (bytesOf a0) (0 + (Int.toNat x4)) (0 : Int))))] [] (internal_strconv_lower.R t73) [] ∧ True) ∧ (True) ∧ (True) ∧ (True) ∧ (True) ∧ (((decide ((IntKind.wrap .u8 ((IntKind.wrap .u8 (t73 - (97 : Int))) + (10 : Int))) ≥ (16 : Int))) = true → (True ∧ (((True) ∧ (True) ∧ True) ∧ internal_strconv_ParseUint.l0_Q a0 r .ret ⟨[.any, .any, .any, .any, .any, .any, .v (.one (.sc (.int .u64 (0 : Int)))), .v (.one (.oerr)), .any, .any, .any, .any, .any, .any, .any, .any, .any, .any, .any, .any, .any, .any, .any, .any, .any, .any, .any, .any, .any, .any, .any, .any, .any, .any, .any, .any, .any, .any, .any, .any, .any, .any, .any, .any, .any, .any, .any, .any, .any, .any, .any, .any, .any, .any, .any, .any, .any, .any, .any, .any, .any, .any, .any, .any, .any, .any, .any, .any, .any, .any, .any, .any, .any, .any, .any, .any, .any, .any, .any, .any, .any, .any, .any, .any, .any, .any, .any, .any, .any, .any, .any, .any, .any, .any, .any, .any, .any, .any, .any, .any, .any, .any, .any, .any, .any, .any, .any, .any, .any, .any, .any, .any, .any, .any, .any, .any, .any, .any, .any, .any, .any, .any, .any, .any, .any, .any, .any, .any, .any, .any, .any, .any, .any, .any, .any, .any, .any, .any, .any, .any, .any, .any, .any, .any, .any, .any, .any, .any, .any, .any, .any, .any, .any, .any, .any, .any, .any, .any, .any, .any, .any, .any, .any, .any, .any, .any, .any, .any, .any, .any, .any, .any], [.gro false (.int .u8) (bytesOf a0) 5], 0⟩))) ∧ ((decide ((IntKind.wrap .u8 ((IntKind.wrap .u8 (t73 - (97 : Int))) + (10 : Int))) ≥ (16 : Int))) = false → (True) ∧ (((decide (x3 ≥ (1152921504606846976 : Int))) = true → (True ∧ (((True) ∧ (True) ∧ True) ∧ internal_strconv_ParseUint.l0_Q a0 r .ret ⟨[.any, .any, .any, .any, .any, .any, .v (.one (.sc (.int .u64 (IntKind.wrap .u64 ((shl .u64 (1 : Int) (32 : Int)) - (1 : Int)))))), .v (.one (.oerr)), .any, .any, .any, .any, .any, .any, .any, .any, .any, .any, .any, .any, .any, .any, .any, .any, .any, .any, .any, .any, .any, .any, .any, .any, .any, .any, .any, .any, .any, .any, .any, .any, .any, .any, .any, .any, .any, .any, .any, .any, .any, .any, .any, .any, .any, .any, .any, .any, .any, .any, .any, .any, .any, .any, .any, .any, .any, .any, .any, .any, .any, .any, .any, .any, .any, .any, .any, .any, .any, .any, .any, .any, .any, .any, .any, .any, .any, .any, .any, .any, .any, .any, .any, .any, .any, .any, .any, .any, .any, .any, .any, .any, .any, .any, .any, .any, .any, .any, .any, .any, .any, .any, .any, .any, .any, .any, .any, .any, .any, .any, .any, .any, .any, .any, .any, .any, .any, .any, .any, .any, .any, .any, .any, .any, .any, .any, .any, .any, .any, .any, .any, .any, .any, .any, .any, .any, .any, .any, .any, .any, .any, .any, .any, .any, .any, .any, .any, .any, .any, .any, .any, .any, .any, .any, .any, .any, .any, .any, .any, .any, .any, .any, .any, .any], [.gro false (.int .u8) (bytesOf a0) 5], 0⟩))) ∧ ((decide (x3 ≥ (1152921504606846976 : Int))) = false → (True) ∧ (True) ∧ (True) ∧ (True) ∧ (True) ∧ (((internal_strconv_ParseUint.c7 x3 t73) = false → ((internal_strconv_ParseUint.c7 x3 t73) = false ∧ ((internal_strconv_ParseUint.c7 x3 t73) = false ∧ (True) ∧ ((internal_strconv_ParseUint.c7 x3 t73) = false ∧ (((internal_strconv_ParseUint.c2 x3 t73) = true → (True ∧ (((True) ∧ (True) ∧ True) ∧ internal_strconv_ParseUint.l0_Q a0 r .ret ⟨[.any, .any, .any, .any, .any, .any, .v (.one (.sc (.int .u64 (IntKind.wrap .u64 ((shl .u64 (1 : Int) (32 : Int)) - (1 : Int)))))), .v (.one (.oerr)), .any, .any, .any, .any, .any, .any, .any, .any, .any, .any, .any, .any, .any, .any, .any, .any, .any, .any, .any, .any, .any, .any, .any, .any, .any, .any, .any, .any, .any, .any, .any, .any, .any, .any, .any, .any, .any, .any, .any, .any, .any, .any, .any, .any, .any, .any, .any, .any, .any, .any, .any, .any, .any, .any, .any, .any, .any, .any, .any, .any, .any, .any, .any, .any, .any, .any, .any, .any, .any, .any, .any, .any, .any, .any, .any, .any, .any, .any, .any, .any, .any, .any, .any, .any, .any, .any, .any, .any, .any, .any, .any, .any, .any, .any, .any, .any, .any, .any, .any, .any, .any, .any, .any, .any, .any, .any, .any, .any, .any, .any, .any, .any, .any, .any, .any, .any, .any, .any, .any, .any, .any, .any, .any, .any, .any, .any, .any, .any, .any, .any, .any, .any, .any, .any, .any, .any, .any, .any, .any, .any, .any, .any, .any, .any, .any, .any, .any, .any, .any, .any, .any, .any, .any, .any, .any, .any, .any, .any, .any, .any, .any, .any, .any, .any], [.gro false (.int .u8) (bytesOf a0) 5], 0⟩))) ∧ ((internal_strconv_ParseUint.c2 x3 t73) = false → (True ∧ (True ∧ (True ∧ (True) ∧ (((True) ∧ (True) ∧ True) ∧ TripN cfg (cpath (Tryd.f30.body.getD .skip) [1, 1, 1, 1, 1, 1, 1, 1, 1, 1, 1, 0, 1, 0, 0]) n (internal_strconv_ParseUint.l0_S a0 x2 (IntKind.wrap .u64 ((IntKind.wrap .u64 (x3 * (16 : Int))) + (IntKind.wrap .u64 ((IntKind.wrap .u8 ((IntKind.wrap .u8 (t73 - (97 : Int))) + (10 : Int))))))) (IntKind.wrap .i64 (x4 + (1 : Int)))) (internal_strconv_ParseUint.l0_Q a0 r))))))))))) ∧ ((internal_strconv_ParseUint.c7 x3 t73) = true → ((internal_strconv_ParseUint.c7 x3 t73) = true ∧ ((internal_strconv_ParseUint.c7 x3 t73) = true ∧ ((internal_strconv_ParseUint.c7 x3 t73) = true ∧ (true = true ∧ (True ∧ (((True) ∧ (True) ∧ True) ∧ internal_strconv_ParseUint.l0_Q a0 r .ret ⟨[.any, .any, .any, .any, .any, .any, .v (.one (.sc (.int .u64 (IntKind.wrap .u64 ((shl .u64 (1 : Int) (32 : Int)) - (1 : Int)))))), .v (.one (.oerr)), .any, .any, .any, .any, .any, .any, .any, .any, .any, .any, .any, .any, .any, .any, .any, .any, .any, .any, .any, .any, .any, .any, .any, .any, .any, .any, .any, .any, .any, .any, .any, .any, .any, .any, .any, .any, .any, .any, .any, .any, .any, .any, .any, .any, .any, .any, .any, .any, .any, .any, .any, .any, .any, .any, .any, .any, .any, .any, .any, .any, .any, .any, .any, .any, .any, .any, .any, .any, .any, .any, .any, .any, .any, .any, .any, .any, .any, .any, .any, .any, .any, .any, .any, .any, .any, .any, .any, .any, .any, .any, .any, .any, .any, .any, .any, .any, .any, .any, .any, .any, .any, .any, .any, .any, .any, .any, .any, .any, .any, .any, .any, .any, .any, .any, .any, .any, .any, .any, .any, .any, .any, .any, .any, .any, .any, .any, .any, .any, .any, .any, .any, .any, .any, .any, .any, .any, .any, .any, .any, .any, .any, .any, .any, .any, .any, .any, .any, .any, .any, .any, .any, .any, .any, .any, .any, .any, .any, .any, .any, .any, .any, .any, .any, .any], [.gro false (.int .u8) (bytesOf a0) 5], 0⟩)))))))))))))) ∧ ((decide (t71 ≤ (122 : Int))) = false → (True ∧ (((True) ∧ (True) ∧ True) ∧ internal_strconv_ParseUint.l0_Q a0 r .ret ⟨[.any, .any, .any, .any, .any, .any, .v (.one (.sc (.int .u64 (0 : Int)))), .v (.one (.oerr)), .any, .any, .any, .any, .any, .any, .any, .any, .any, .any, .any, .any, .any, .any, .any, .any, .any, .any, .any, .any, .any, .any, .any, .any, .any, .any, .any, .any, .any, .any, .any, .any, .any, .any, .any, .any, .any, .any, .any, .any, .any, .any, .any, .any, .any, .any, .any, .any, .any, .any, .any, .any, .any, .any, .any, .any, .any, .any, .any, .any, .any, .any, .any, .any, .any, .any, .any, .any, .any, .any, .any, .any, .any, .any, .any, .any, .any, .any, .any, .any, .any, .any, .any, .any, .any, .any, .any, .any, .any, .any, .any, .any, .any, .any, .any, .any, .any, .any, .any, .any, .any, .any, .any, .any, .any, .any, .any, .any, .any, .any, .any, .any, .any, .any, .any, .any, .any, .any, .any, .any, .any, .any, .any, .any, .any, .any, .any, .any, .any, .any, .any, .any, .any, .any, .any, .any, .any, .any, .any, .any, .any, .any, .any, .any, .any, .any, .any, .any, .any, .any, .any, .any, .any, .any, .any, .any, .any, .any, .any, .any, .any, .any, .any, .any], [.gro false (.int .u8) (bytesOf a0) 5], 0⟩))))))))) ∧ ((decide ((97 : Int) ≤ t69)) = false → ((decide ((97 : Int) ≤ t69)) = false ∧ ((decide ((97 : Int) ≤ t69)) = false ∧ ((decide ((97 : Int) ≤ t69)) = false ∧ (false = false ∧ (True ∧ (((True) ∧ (True) ∧ True) ∧ internal_strconv_ParseUint.l0_Q a0 r .ret ⟨[.any, .any, .any, .any, .any, .any, .v (.one (.sc (.int .u64 (0 : Int)))), .v (.one (.oerr)), .any, .any, .any, .any, .any, .any, .any, .any, .any, .any, .any, .any, .any, .any, .any, .any, .any, .any, .any, .any, .any, .any, .any, .any, .any, .any, .any, .any, .any, .any, .any, .any, .any, .any, .any, .any, .any, .any, .any, .any, .any, .any, .any, .any, .any, .any, .any, .any, .any, .any, .any, .any, .any, .any, .any, .any, .any, .any, .any, .any, .any, .any, .any, .any, .any, .any, .any, .any, .any, .any, .any, .any, .any, .any, .any, .any, .any, .any, .any, .any, .any, .any, .any, .any, .any, .any, .any, .any, .any, .any, .any, .any, .any, .any, .any, .any, .any, .any, .any, .any, .any, .any, .any, .any, .any, .any, .any, .any, .any, .any, .any, .any, .any, .any, .any, .any, .any, .any, .any, .any, .any, .any, .any, .any, .any, .any, .any, .any, .any, .any, .any, .any, .any, .any, .any, .any, .any, .any, .any, .any, .any, .any, .any, .any, .any, .any, .any, .any, .any, .any, .any, .any, .any, .any, .any, .any, .any, .any, .any, .any, .any, .any, .any, .any], [.gro false (.int .u8) (bytesOf a0) 5], 0⟩)))))))))))))) ∧ ((decide ((48 : Int) ≤ (List.getD (bytesOf a0) (0 + (Int.toNat x4)) (0 : Int)))) = false → ((decide ((48 : Int) ≤ (List.getD (bytesOf a0) (0 + (Int.toNat x4)) (0 : Int)))) = false ∧ ((decide ((48 : Int) ≤ (List.getD (bytesOf a0) (0 + (Int.toNat x4)) (0 : Int)))) = false ∧ (false = false ∧ (∃ t78 : Int, (Fun cfg 36 [.one (.sc (.int .u8 (List.getD (bytesOf a0) (0 + (Int.toNat x4)) (0 : Int))))] [] (internal_strconv_lower.R t78) [] ∧ True) ∧ (True) ∧ (((decide ((97 : Int) ≤ t78)) = true → ((decide ((97 : Int) ≤ t78)) = true ∧ (∃ t80 : Int, (Fun cfg 36 [.one (.sc (.int .u8 (List.getD (bytesOf a0) (0 + (Int.toNat x4)) (0 : Int))))] [] (internal_strconv_lower.R t80) [] ∧ True) ∧ ((decide ((97 : Int) ≤ t78)) = true ∧ (True) ∧ ((decide ((97 : Int) ≤ t78)) = true ∧ (((decide (t80 ≤ (122 : Int))) = true → (∃ t82 : Int, (Fun cfg 36 [.one (.sc (.int .u8 (List.getD (bytesOf a0) (0 + (Int.toNat x4)) (0 : Int))))] [] (internal_strconv_lower.R t82) [] ∧ True) ∧ (True) ∧ (True) ∧ (True) ∧ (True) ∧ (((decide ((IntKind.wrap .u8 ((IntKind.wrap .u8 (t82 - (97 : Int))) + (10 : Int))) ≥ (16 : Int))) = true → (True ∧ (((True) ∧ (True) ∧ True) ∧ internal_strconv_ParseUint.l0_Q a0 r .ret ⟨[.any, .any, .any, .any, .any, .any, .v (.one (.sc (.int .u64 (0 : Int)))), .v (.one (.oerr)), .any, .any, .any, .any, .any, .any, .any, .any, .any, .any, .any, .any, .any, .any, .any, .any, .any, .any, .any, .any, .any, .any, .any, .any, .any, .any, .any, .any, .any, .any, .any, .any, .any, .any, .any, .any, .any, .any, .any, .any, .any, .any, .any, .any, .any, .any, .any, .any, .any, .any, .any, .any, .any, .any, .any, .any, .any, .any, .any, .any, .any, .any, .any, .any, .any, .any, .any, .any, .any, .any, .any, .any, .any, .any, .any, .any, .any, .any, .any, .any, .any, .any, .any, .any, .any, .any, .any, .any, .any, .any, .any, .any, .any, .any, .any, .any, .any, .any, .any, .any, .any, .any, .any, .any, .any, .any, .any, .any, .any, .any, .any, .any, .any, .any, .any, .any, .any, .any, .any, .any, .any, .any, .any, .any, .any, .any, .any, .any, .any, .any, .any, .any, .any, .any, .any, .any, .any, .any, .any, .any, .any, .any, .any, .any, .any, .any, .any, .any, .any, .any, .any, .any, .any, .any, .any, .any, .any, .any, .any, .any, .any, .any, .any, .any], [.gro false (.int .u8) (bytesOf a0) 5], 0⟩))) ∧ ((decide ((IntKind.wrap .u8 ((IntKind.wrap .u8 (t82 - (97 : Int))) + (10 : Int))) ≥ (16 : Int))) = false → (True) ∧ (((decide (x3 ≥ (1152921504606846976 : Int))) = true → (True ∧ (((True) ∧ (True) ∧ True) ∧ internal_strconv_ParseUint.l0_Q a0 r .ret ⟨[.any, .any, .any, .any, .any, .any, .v (.one (.sc (.int .u64 (IntKind.wrap .u64 ((shl .u64 (1 : Int) (32 : Int)) - (1 : Int)))))), .v (.one (.oerr)), .any, .any, .any, .any, .any, .any, .any, .any, .any, .any, .any, .any, .any, .any, .any, .any, .any, .any, .any, .any, .any, .any, .any, .any, .any, .any, .any, .any, .any, .any, .any, .any, .any, .any, .any, .any, .any, .any, .any, .any, .any, .any, .any, .any, .any, .any, .any, .any, .any, .any, .any, .any, .any, .any, .any, .any, .any, .any, .any, .any, .any, .any, .any, .any, .any, .any, .any, .any, .any, .any, .any, .any, .any, .any, .any, .any, .any, .any, .any, .any, .any, .any, .any, .any, .any, .any, .any, .any, .any, .any, .any, .any, .any, .any, .any, .any, .any, .any, .any, .any, .any, .any, .any, .any, .any, .any, .any, .any, .any, .any, .any, .any, .any, .any, .any, .any, .any, .any, .any, .any, .any, .any, .any, .any, .any, .any, .any, .any, .any, .any, .any, .any, .any, .any, .any, .any, .any, .any, .any, .any, .any, .any, .any, .any, .any, .any, .any, .any, .any, .any, .any, .any, .any, .any, .any, .any, .any, .any, .any, .any, .any, .any, .any, .any], [.gro false (.int .u8) (bytesOf a0) 5], 0⟩))) ∧ ((decide (x3 ≥ (1152921504606846976 : Int))) = false → (True) ∧ (True) ∧ (True) ∧ (True) ∧ (True) ∧ (((internal_strconv_ParseUint.c8 x3 t82) = false → ((internal_strconv_ParseUint.c8 x3 t82) = false ∧ ((internal_strconv_ParseUint.c8 x3 t82) = false ∧ (True) ∧ ((internal_strconv_ParseUint.c8 x3 t82) = false ∧ (((internal_strconv_ParseUint.c3 x3 t82) = true → (True ∧ (((True) ∧ (True) ∧ True) ∧ internal_strconv_ParseUint.l0_Q a0 r .ret ⟨[.any, .any, .any, .any, .any, .any, .v (.one (.sc (.int .u64 (IntKind.wrap .u64 ((shl .u64 (1 : Int) (32 : Int)) - (1 : Int)))))), .v (.one (.oerr)), .any, .any, .any, .any, .any, .any, .any, .any, .any, .any, .any, .any, .any, .any, .any, .any, .any, .any, .any, .any, .any, .any, .any, .any, .any, .any, .any, .any, .any, .any, .any, .any, .any, .any, .any, .any, .any, .any, .any, .any, .any, .any, .any, .any, .any, .any, .any, .any, .any, .any, .any, .any, .any, .any, .any, .any, .any, .any, .any, .any, .any, .any, .any, .any, .any, .any, .any, .any, .any, .any, .any, .any, .any, .any, .any, .any, .any, .any, .any, .any, .any, .any, .any, .any, .any, .any, .any, .any, .any, .any, .any, .any, .any, .any, .any, .any, .any, .any, .any, .any, .any, .any, .any, .any, .any, .any, .any, .any, .any, .any, .any, .any, .any, .any, .any, .any, .any, .any, .any, .any, .any, .any, .any, .any, .any, .any, .any, .any, .any, .any, .any, .any, .any, .any, .any, .any, .any, .any, .any, .any, .any, .any, .any, .any, .any, .any, .any, .any, .any, .any, .any, .any, .any, .any, .any, .any, .any, .any, .any, .any, .any, .any, .any, .any], [.gro false (.int .u8) (bytesOf a0) 5], 0⟩))) ∧ ((internal_strconv_ParseUint.c3 x3 t82) = false → (True ∧ (True ∧ (True ∧ (True) ∧ (((True) ∧ (True) ∧ True) ∧ TripN cfg (cpath (Tryd.f30.body.getD .skip) [1, 1, 1, 1, 1, 1, 1, 1, 1, 1, 1, 0, 1, 0, 0]) n (internal_strconv_ParseUint.l0_S a0 x2 (IntKind.wrap .u64 ((IntKind.wrap .u64 (x3 * (16 : Int))) + (IntKind.wrap .u64 ((IntKind.wrap .u8 ((IntKind.wrap .u8 (t82 - (97 : Int))) + (10 : Int))))))) (IntKind.wrap .i64 (x4 + (1 : Int)))) (internal_strconv_ParseUint.l0_Q a0 r))))))))))) ∧ ((internal_strconv_ParseUint.c8 x3 t82) = true → ((internal_strconv_ParseUint.c8 x3 t82) = true ∧ ((internal_strconv_ParseUint.c8 x3 t82) = true ∧ ((internal_strconv_ParseUint.c8 x3 t82) = true ∧ (true = true ∧ (True ∧ (((True) ∧ (True) ∧ True) ∧ internal_strconv_ParseUint.l0_Q a0 r .ret ⟨[.any, .any, .any, .any, .any, .any, .v (.one (.sc (.int .u64 (IntKind.wrap .u64 ((shl .u64 (1 : Int) (32 : Int)) - (1 : Int)))))), .v (.one (.oerr)), .any, .any, .any, .any, .any, .any, .any, .any, .any, .any, .any, .any, .any, .any, .any, .any, .any, .any, .any, .any, .any, .any, .any, .any, .any, .any, .any, .any, .any, .any, .any, .any, .any, .any, .any, .any, .any, .any, .any, .any, .any, .any, .any, .any, .any, .any, .any, .any, .any, .any, .any, .any, .any, .any, .any, .any, .any, .any, .any, .any, .any, .any, .any, .any, .any, .any, .any, .any, .any, .any, .any, .any, .any, .any, .any, .any, .any, .any, .any, .any, .any, .any, .any, .any, .any, .any, .any, .any, .any, .any, .any, .any, .any, .any, .any, .any, .any, .any, .any, .any, .any, .any, .any, .any, .any, .any, .any, .any, .any, .any, .any, .any, .any, .any, .any, .any, .any, .any, .any, .any, .any, .any, .any, .any, .any, .any, .any, .any, .any, .any, .any, .any, .any, .any, .any, .any, .any, .any, .any, .any, .any, .any, .any, .any, .any, .any, .any, .any, .any, .any, .any, .any, .any, .any, .any, .any, .any, .any, .any, .any, .any, .any, .any, .any], [.gro false (.int .u8) (bytesOf a0) 5], 0⟩)))))))))))))) ∧ ((decide (t80 ≤ (122 : Int))) = false → (True ∧ (((True) ∧ (True) ∧ True) ∧ internal_strconv_ParseUint.l0_Q a0 r .ret ⟨[.any, .any, .any, .any, .any, .any, .v (.one (.sc (.int .u64 (0 : Int)))), .v (.one (.oerr)), .any, .any, .any, .any, .any, .any, .any, .any, .any, .any, .any, .any, .any, .any, .any, .any, .any, .any, .any, .any, .any, .any, .any, .any, .any, .any, .any, .any, .any, .any, .any, .any, .any, .any, .any, .any, .any, .any, .any, .any, .any, .any, .any, .any, .any, .any, .any, .any, .any, .any, .any, .any, .any, .any, .any, .any, .any, .any, .any, .any, .any, .any, .any, .any, .any, .any, .any, .any, .any, .any, .any, .any, .any, .any, .any, .any, .any, .any, .any, .any, .any, .any, .any, .any, .any, .any, .any, .any, .any, .any, .any, .any, .any, .any, .any, .any, .any, .any, .any, .any, .any, .any, .any, .any, .any, .any, .any, .any, .any, .any, .any, .any, .any, .any, .any, .any, .any, .any, .any, .any, .any, .any, .any, .any, .any, .any, .any, .any, .any, .any, .any, .any, .any, .any, .any, .any, .any, .any, .any, .any, .any, .any, .any, .any, .any, .any, .any, .any, .any, .any, .any, .any, .any, .any, .any, .any, .any, .any, .any, .any, .any, .any, .any, .any], [.gro false (.int .u8) (bytesOf a0) 5], 0⟩))))))))) ∧ ((decide ((97 : Int) ≤ t78)) = false → ((decide ((97 : Int) ≤ t78)) = false ∧ ((decide ((97 : Int) ≤ t78)) = false ∧ ((decide ((97 : Int) ≤ t78)) = false ∧ (false = false ∧ (True ∧ (((True) ∧ (True) ∧ True) ∧ internal_strconv_ParseUint.l0_Q a0 r .ret ⟨[.any, .any, .any, .any, .any, .any, .v (.one (.sc (.int .u64 (0 : Int)))), .v (.one (.oerr)), .any, .any, .any, .any, .any, .any, .any, .any, .any, .any, .any, .any, .any, .any, .any, .any, .any, .any, .any, .any, .any, .any, .any, .any, .any, .any, .any, .any, .any, .any, .any, .any, .any, .any, .any, .any, .any, .any, .any, .any, .any, .any, .any, .any, .any, .any, .any, .any, .any, .any, .any, .any, .any, .any, .any, .any, .any, .any, .any, .any, .any, .any, .any, .any, .any, .any, .any, .any, .any, .any, .any, .any, .any, .any, .any, .any, .any, .any, .any, .any, .any, .any, .any, .any, .any, .any, .any, .any, .any, .any, .any, .any, .any, .any, .any, .any, .any, .any, .any, .any, .any, .any, .any, .any, .any, .any, .any, .any, .any, .any, .any, .any, .any, .any, .any, .any, .any, .any, .any, .any, .any, .any, .any, .any, .any, .any, .any, .any, .any, .any, .any, .any, .any, .any, .any, .any, .any, .any, .any, .any, .any, .any, .any, .any, .any, .any, .any, .any, .any, .any, .any, .any, .any, .any, .any, .any, .any, .any, .any, .any, .any, .any, .any, .any], [.gro false (.int .u8) (bytesOf a0) 5], 0⟩))))))))))))))))) ∧ (((List.getD (bytesOf a0) (0 + (Int.toNat x4)) (0 : Int)) == (95 : Int)) = false → (((List.getD (bytesOf a0) (0 + (Int.toNat x4)) (0 : Int)) == (95 : Int)) = false ∧ (false = false ∧ (True) ∧ (((decide ((48 : Int) ≤ (List.getD (bytesOf a0) (0 + (Int.toNat x4)) (0 : Int)))) = true → ((decide ((48 : Int) ≤ (List.getD (bytesOf a0) (0 + (Int.toNat x4)) (0 : Int)))) = true ∧ (True) ∧ ((decide ((48 : Int) ≤ (List.getD (bytesOf a0) (0 + (Int.toNat x4)) (0 : Int)))) = true ∧ (((decide ((List.getD (bytesOf a0) (0 + (Int.toNat x4)) (0 : Int)) ≤ (57 : Int))) = true → (True) ∧ (True) ∧ (True) ∧ (((decide ((IntKind.wrap .u8 ((List.getD (bytesOf a0) (0 + (Int.toNat x4)) (0 : Int)) - (48 : Int))) ≥ (16 : Int))) = true → (True ∧ (((True) ∧ (True) ∧ True) ∧ internal_strconv_ParseUint.l0_Q a0 r .ret ⟨[.any, .any, .any, .any, .any, .any, .v (.one (.sc (.int .u64 (0 : Int)))), .v (.one (.oerr)), .any, .any, .any, .any, .any, .any, .any, .any, .any, .any, .any, .any, .any, .any, .any, .any, .any, .any, .any, .any, .any, .any, .any, .any, .any, .any, .any, .any, .any, .any, .any, .any, .any, .any, .any, .any, .any, .any, .any, .any, .any, .any, .any, .any, .any, .any, .any, .any, .any, .any, .any, .any, .any, .any, .any, .any, .any, .any, .any, .any, .any, .any, .any, .any, .any, .any, .any, .any, .any, .any, .any, .any, .any, .any, .any, .any, .any, .any, .any, .any, .any, .any, .any, .any, .any, .any, .any, .any, .any, .any, .any, .any, .any, .any, .any, .any, .any, .any, .any, .any, .any, .any, .any, .any, .any, .any, .any, .any, .any, .any, .any, .any, .any, .any, .any, .any, .any, .any, .any, .any, .any, .any, .any, .any, .any, .any, .any, .any, .any, .any, .any, .any, .any, .any, .any, .any, .any, .any, .any, .any, .any, .any, .any, .any, .any, .any, .any, .any, .any, .any, .any, .any, .any, .any, .any, .any, .any, .any, .any, .any, .any, .any, .any, .any], [.gro false (.int .u8) (bytesOf a0) 5], 0⟩))) ∧ ((decide ((IntKind.wrap .u8 ((List.getD (bytesOf a0) (0 + (Int.toNat x4)) (0 : Int)) - (48 : Int))) ≥ (16 : Int))) = false → (True) ∧ (((decide (x3 ≥ (1152921504606846976 : Int))) = true → (True ∧ (((True) ∧ (True) ∧ True) ∧ internal_strconv_ParseUint.l0_Q a0 r .ret ⟨[.any, .any, .any, .any, .any, .any, .v (.one (.sc (.int .u64 (IntKind.wrap .u64 ((shl .u64 (1 : Int) (32 : Int)) - (1 : Int)))))), .v (.one (.oerr)), .any, .any, .any, .any, .any, .any, .any, .any, .any, .any, .any, .any, .any, .any, .any, .any, .any, .any, .any, .any, .any, .any, .any, .any, .any, .any, .any, .any, .any, .any, .any, .any, .any, .any, .any, .any, .any, .any, .any, .any, .any, .any, .any, .any, .any, .any, .any, .any, .any, .any, .any, .any, .any, .any, .any, .any, .any, .any, .any, .any, .any, .any, .any, .any, .any, .any, .any, .any, .any, .any, .any, .any, .any, .any, .any, .any, .any, .any, .any, .any, .any, .any, .any, .any, .any, .any, .any, .any, .any, .any, .any, .any, .any, .any, .any, .any, .any, .any, .any, .any, .any, .any, .any, .any, .any, .any, .any, .any, .any, .any, .any, .any, .any, .any, .any, .any, .any, .any, .any, .any, .any, .any, .any, .any, .any, .any, .any, .any, .any, .any, .any, .any, .any, .any, .any, .any, .any, .any, .any, .any, .any, .any, .any, .any, .any, .any, .any, .any, .any, .any, .any, .any, .any, .any, .any, .any, .any, .any, .any, .any, .any, .any, .any, .any], [.gro false (.int .u8) (bytesOf a0) 5], 0⟩))) ∧ ((decide (x3 ≥ (1152921504606846976 : Int))) = false → (True) ∧ (True) ∧ (True) ∧ (True) ∧ (True) ∧ (((internal_strconv_ParseUint.c5 x3 a0 x4) = false → ((internal_strconv_ParseUint.c5 x3 a0 x4) = false ∧ ((internal_strconv_ParseUint.c5 x3 a0 x4) = false ∧ (True) ∧ ((internal_strconv_ParseUint.c5 x3 a0 x4) = false ∧ (((internal_strconv_ParseUint.c0 x3 a0 x4) = true → (True ∧ (((True) ∧ (True) ∧ True) ∧ internal_strconv_ParseUint.l0_Q a0 r .ret ⟨[.any, .any, .any, .any, .any, .any, .v (.one (.sc (.int .u64 (IntKind.wrap .u64 ((shl .u64 (1 : Int) (32 : Int)) - (1 : Int)))))), .v (.one (.oerr)), .any, .any, .any, .any, .any, .any, .any, .any, .any, .any, .any, .any, .any, .any, .any, .any, .any, .any, .any, .any, .any, .any, .any, .any, .any, .any, .any, .any, .any, .any, .any, .any, .any, .any, .any, .any, .any, .any, .any, .any, .any, .any, .any, .any, .any, .any, .any, .any, .any, .any, .any, .any, .any, .any, .any, .any, .any, .any, .any, .any, .any, .any, .any, .any, .any, .any, .any, .any, .any, .any, .any, .any, .any, .any, .any, .any, .any, .any, .any, .any, .any, .any, .any, .any, .any, .any, .any, .any, .any, .any, .any, .any, .any, .any, .any, .any, .any, .any, .any, .any, .any, .any, .any, .any, .any, .any, .any, .any, .any, .any, .any, .any, .any, .any, .any, .any, .any, .any, .any, .any, .any, .any, .any, .any, .any, .any, .any, .any, .any, .any, .any, .any, .any, .any, .any, .any, .any, .any, .any, .any, .any, .any, .any, .any, .any, .any, .any, .any, .any, .any, .any, .any, .any, .any, .any, .any, .any, .any, .any, .any, .any, .any, .any, .any], [.gro false (.int .u8) (bytesOf a0) 5], 0⟩))) ∧ ((internal_strconv_ParseUint.c0 x3 a0 x4) = false → (True ∧ (True ∧ (True ∧ (True) ∧ (((True) ∧ (True) ∧ True) ∧ TripN cfg (cpath (Tryd.f30.body.getD .skip) [1, 1, 1, 1, 1, 1, 1, 1, 1, 1, 1, 0, 1, 0, 0]) n (internal_strconv_ParseUint.l0_S a0 x2 (IntKind.wrap .u64 ((IntKind.wrap .u64 (x3 * (16 : Int))) + (IntKind.wrap .u64 ((IntKind.wrap .u8 ((List.getD (bytesOf a0) (0 + (Int.toNat x4)) (0 : Int)) - (48 : Int))))))) (IntKind.wrap .i64 (x4 + (1 : Int)))) (internal_strconv_ParseUint.l0_Q a0 r))))))))))) ∧ ((internal_strconv_ParseUint.c5 x3 a0 x4) = true → ((internal_strconv_ParseUint.c5 x3 a0 x4) = true ∧ ((internal_strconv_ParseUint.c5 x3 a0 x4) = true ∧ ((internal_strconv_ParseUint.c5 x3 a0 x4) = true ∧ (true = true ∧ (True ∧ (((True) ∧ (True) ∧ True) ∧ internal_strconv_ParseUint.l0_Q a0 r .ret ⟨[.any, .any, .any, .any, .any, .any, .v (.one (.sc (.int .u64 (IntKind.wrap .u64 ((shl .u64 (1 : Int) (32 : Int)) - (1 : Int)))))), .v (.one (.oerr)), .any, .any, .any, .any, .any, .any, .any, .any, .any, .any, .any, .any, .any, .any, .any, .any, .any, .any, .any, .any, .any, .any, .any, .any, .any, .any, .any, .any, .any, .any, .any, .any, .any, .any, .any, .any, .any, .any, .any, .any, .any, .any, .any, .any, .any, .any, .any, .any, .any, .any, .any, .any, .any, .any, .any, .any, .any, .any, .any, .any, .any, .any, .any, .any, .any, .any, .any, .any, .any, .any, .any, .any, .any, .any, .any, .any, .any, .any, .any, .any, .any, .any, .any, .any, .any, .any, .any, .any, .any, .any, .any, .any, .any, .any, .any, .any, .any, .any, .any, .any, .any, .any, .any, .any, .any, .any, .any, .any, .any, .any, .any, .any, .any, .any, .any, .any, .any, .any, .any, .any, .any, .any, .any, .any, .any, .any, .any, .any, .any, .any, .any, .any, .any, .any, .any, .any, .any, .any, .any, .any, .any, .any, .any, .any, .any, .any, .any, .any, .any, .any, .any, .any, .any, .any, .any, .any, .any, .any, .any, .any, .any, .any, .any, .any], [.gro false (.int .u8) (bytesOf a0) 5], 0⟩))))))))))))) ∧ ((decide ((List.getD (bytesOf a0) (0 + (Int.toNat x4)) (0 : Int)) ≤ (57 : Int))) = false → (∃ t93 : Int, (Fun cfg 36 [.one (.sc (.int .u8 (List.getD (bytesOf a0) (0 + (Int.toNat x4)) (0 : Int))))] [] (internal_strconv_lower.R t93) [] ∧ True) ∧ (True) ∧ (((decide ((97 : Int) ≤ t93)) = true → ((decide ((97 : Int) ≤ t93)) = true ∧ (∃ t95 : Int, (Fun cfg 36 [.one (.sc (.int .u8 (List.getD (bytesOf a0) (0 + (Int.toNat x4)) (0 : Int))))] [] (internal_strconv_lower.R t95) [] ∧ True) ∧ ((decide ((97 : Int) ≤ t93)) = true ∧ (True) ∧ ((decide ((97 : Int) ≤ t93)) = true ∧ (((decide (t95 ≤ (122 : Int))) = true → (∃ t97 : Int, (Fun cfg 36 [.one (.sc (.int .u8 (List.getD (bytesOf a0) (0 + (Int.toNat x4)) (0 : Int))))] [] (internal_strconv_lower.R t97) [] ∧ True) ∧ (True) ∧ (True) ∧ (True) ∧ (True) ∧ (((decide ((IntKind.wrap .u8 ((IntKind.wrap .u8 (t97 - (97 : Int))) + (10 : Int))) ≥ (16 : Int))) = true → (True ∧ (((True) ∧ (True) ∧ True) ∧ internal_strconv_ParseUint.l0_Q a0 r .ret ⟨[.any, .any, .any, .any, .any, .any, .v (.one (.sc (.int .u64 (0 : Int)))), .v (.one (.oerr)), .any, .any, .any, .any, .any, .any, .any, .any, .any, .any, .any, .any, .any, .any, .any, .any, .any, .any, .any, .any, .any, .any, .any, .any, .any, .any, .any, .any, .any, .any, .any, .any, .any, .any, .any, .any, .any, .any, .any, .any, .any, .any, .any, .any, .any, .any, .any, .any, .any, .any, .any, .any, .any, .any, .any, .any, .any, .any, .any, .any, .any, .any, .any, .any, .any, .any, .any, .any, .any, .any, .any, .any, .any, .any, .any, .any, .any, .any, .any, .any, .any, .any, .any, .any, .any, .any, .any, .any, .any, .any, .any, .any, .any, .any, .any, .any, .any, .any, .any, .any, .any, .any, .any, .any, .any, .any, .any, .any, .any, .any, .any, .any, .any, .any, .any, .any, .any, .any, .any, .any, .any, .any, .any, .any, .any, .any, .any, .any, .any, .any, .any, .any, .any, .any, .any, .any, .any, .any, .any, .any, .any, .any, .any, .any, .any, .any, .any, .any, .any, .any, .any, .any, .any, .any, .any, .any, .any, .any, .any, .any, .any, .any, .any, .any], [.gro false (.int .u8) (bytesOf a0) 5], 0⟩))) ∧ ((decide ((IntKind.wrap .u8 ((IntKind.wrap .u8 (t97 - (97 : Int))) + (10 : Int))) ≥ (16 : Int))) = false → (True) ∧ (((decide (x3 ≥ (1152921504606846976 : Int))) = true → (True ∧ (((True) ∧ (True) ∧ True) ∧ internal_strconv_ParseUint.l0_Q a0 r .ret ⟨[.any, .any, .any, .any, .any, .any, .v (.one (.sc (.int .u64 (IntKind.wrap .u64 ((shl .u64 (1 : Int) (32 : Int)) - (1 : Int)))))), .v (.one (.oerr)), .any, .any, .any, .any, .any, .any, .any, .any, .any, .any, .any, .any, .any, .any, .any, .any, .any, .any, .any, .any, .any, .any, .any, .any, .any, .any, .any, .any, .any, .any, .any, .any, .any, .any, .any, .any, .any, .any, .any, .any, .any, .any, .any, .any, .any, .any, .any, .any, .any, .any, .any, .any, .any, .any, .any, .any, .any, .any, .any, .any, .any, .any, .any, .any, .any, .any, .any, .any, .any, .any, .any, .any, .any, .any, .any, .any, .any, .any, .any, .any, .any, .any, .any, .any, .any, .any, .any, .any, .any, .any, .any, .any, .any, .any, .any, .any, .any, .any, .any, .any, .any, .any, .any, .any, .any, .any, .any, .any, .any, .any, .any, .any, .any, .any, .any, .any, .any, .any, .any, .any, .any, .any, .any, .any, .any, .any, .any, .any, .any, .any, .any, .any, .any, .any, .any, .any, .any, .any, .any, .any, .any, .any, .any, .any, .any, .any, .any, .any, .any, .any, .any, .any, .any, .any, .any, .any, .any, .any, .any, .any, .any, .any, .any, .any], [.gro false (.int .u8) (bytesOf a0) 5], 0⟩))) ∧ ((decide (x3 ≥ (1152921504606846976 : Int))) = false → (True) ∧ (True) ∧ (True) ∧ (True) ∧ (True) ∧ (((internal_strconv_ParseUint.c9 x3 t97) = false → ((internal_strconv_ParseUint.c9 x3 t97) = false ∧ ((internal_strconv_ParseUint.c9 x3 t97) = false ∧ (True) ∧ ((internal_strconv_ParseUint.c9 x3 t97) = false ∧ (((internal_strconv_ParseUint.c4 x3 t97) = true → (True ∧ (((True) ∧ (True) ∧ True) ∧ internal_strconv_ParseUint.l0_Q a0 r .ret ⟨[.any, .any, .any, .any, .any, .any, .v (.one (.sc (.int .u64 (IntKind.wrap .u64 ((shl .u64 (1 : Int) (32 : Int)) - (1 : Int)))))), .v (.one (.oerr)), .any, .any, .any, .any, .any, .any, .any, .any, .any, .any, .any, .any, .any, .any, .any, .any, .any, .any, .any, .any, .any, .any, .any, .any, .any, .any, .any, .any, .any, .any, .any, .any, .any, .any, .any, .any, .any, .any, .any, .any, .any, .any, .any, .any, .any, .any, .any, .any, .any, .any, .any, .any, .any, .any, .any, .any, .any, .any, .any, .any, .any, .any, .any, .any, .any, .any, .any, .any, .any, .any, .any, .any, .any, .any, .any, .any, .any, .any, .any, .any, .any, .any, .any, .any, .any, .any, .any, .any, .any, .any, .any, .any, .any, .any, .any, .any, .any, .any, .any, .any, .any, .any, .any, .any, .any, .any, .any, .any, .any, .any, .any, .any, .any, .any, .any, .any, .any, .any, .any, .any, .any, .any, .any, .any, .any, .any, .any, .any, .any, .any, .any, .any, .any, .any, .any, .any, .any, .any, .any, .any, .any, .any, .any, .any, .any, .any, .any, .any, .any, .any, .any, .any, .any, .any, .any, .any, .any, .any, .any, .any, .any, .any, .any, .any], [.gro false (.int .u8) (bytesOf a0) 5], 0⟩))) ∧ ((internal_strconv_ParseUint.c4 x3 t97) = false → (True ∧ (True ∧ (True ∧ (True) ∧ (((True) ∧ (True) ∧ True) ∧ TripN cfg (cpath (Tryd.f30.body.getD .skip) [1, 1, 1, 1, 1, 1, 1, 1, 1, 1, 1, 0, 1, 0, 0]) n (internal_strconv_ParseUint.l0_S a0 x2 (IntKind.wrap .u64 ((IntKind.wrap .u64 (x3 * (16 : Int))) + (IntKind.wrap .u64 ((IntKind.wrap .u8 ((IntKind.wrap .u8 (t97 - (97 : Int))) + (10 : Int))))))) (IntKind.wrap .i64 (x4 + (1 : Int)))) (internal_strconv_ParseUint.l0_Q a0 r))))))))))) ∧ ((internal_strconv_ParseUint.c9 x3 t97) = true → ((internal_strconv_ParseUint.c9 x3 t97) = true ∧ ((internal_strconv_ParseUint.c9 x3 t97) = true ∧ ((internal_strconv_ParseUint.c9 x3 t97) = true ∧ (true = true ∧ (True ∧ (((True) ∧ (True) ∧ True) ∧ internal_strconv_ParseUint.l0_Q a0 r .ret ⟨[.any, .any, .any, .any, .any, .any, .v (.one (.sc (.int .u64 (IntKind.wrap .u64 ((shl .u64 (1 : Int) (32 : Int)) - (1 : Int)))))), .v (.one (.oerr)), .any, .any, .any, .any, .any, .any, .any, .any, .any, .any, .any, .any, .any, .any, .any, .any, .any, .any, .any, .any, .any, .any, .any, .any, .any, .any, .any, .any, .any, .any, .any, .any, .any, .any, .any, .any, .any, .any, .any, .any, .any, .any, .any, .any, .any, .any, .any, .any, .any, .any, .any, .any, .any, .any, .any, .any, .any, .any, .any, .any, .any, .any, .any, .any, .any, .any, .any, .any, .any, .any, .any, .any, .any, .any, .any, .any, .any, .any, .any, .any, .any, .any, .any, .any, .any, .any, .any, .any, .any, .any, .any, .any, .any, .any, .any, .any, .any, .any, .any, .any, .any, .any, .any, .any, .any, .any, .any, .any, .any, .any, .any, .any, .any, .any, .any, .any, .any, .any, .any, .any, .any, .any, .any, .any, .any, .any, .any, .any, .any, .any, .any, .any, .any, .any, .any, .any, .any, .any, .any, .any, .any, .any, .any, .any, .any, .any, .any, .any, .any, .any, .any, .any, .any, .any, .any, .any, .any, .any, .any, .any, .any, .any, .any, .any], [.gro false (.int .u8) (bytesOf a0) 5], 0⟩)))))))))))))) ∧ ((decide (t95 ≤ (122 : Int))) = false → (True ∧ (((True) ∧ (True) ∧ True) ∧ internal_strconv_ParseUint.l0_Q a0 r .ret ⟨[.any, .any, .any, .any, .any, .any, .v (.one (.sc (.int .u64 (0 : Int)))), .v (.one (.oerr)), .any, .any, .any, .any, .any, .any, .any, .any, .any, .any, .any, .any, .any, .any, .any, .any, .any, .any, .any, .any, .any, .any, .any, .any, .any, .any, .any, .any, .any, .any, .any, .any, .any, .any, .any, .any, .any, .any, .any, .any, .any, .any, .any, .any, .any, .any, .any, .any, .any, .any, .any, .any, .any, .any, .any, .any, .any, .any, .any, .any, .any, .any, .any, .any, .any, .any, .any, .any, .any, .any, .any, .any, .any, .any, .any, .any, .any, .any, .any, .any, .any, .any, .any, .any, .any, .any, .any, .any, .any, .any, .any, .any, .any, .any, .any, .any, .any, .any, .any, .any, .any, .any, .any, .any, .any, .any, .any, .any, .any, .any, .any, .any, .any, .any, .any, .any, .any, .any, .any, .any, .any, .any, .any, .any, .any, .any, .any, .any, .any, .any, .any, .any, .any, .any, .any, .any, .any, .any, .any, .any, .any, .any, .any, .any, .any, .any, .any, .any, .any, .any, .any, .any, .any, .any, .any, .any, .any, .any, .any, .any, .any, .any, .any, .any], [.gro false (.int .u8) (bytesOf a0) 5], 0⟩))))))))) ∧ ((decide ((97 : Int) ≤ t93)) = false → ((decide ((97 : Int) ≤ t93)) = false ∧ ((decide ((97 : Int) ≤ t93)) = false ∧ ((decide ((97 : Int) ≤ t93)) = false ∧ (false = false ∧ (True ∧ (((True) ∧ (True) ∧ True) ∧ internal_strconv_ParseUint.l0_Q a0 r .ret ⟨[.any, .any, .any, .any, .any, .any, .v (.one (.sc (.int .u64 (0 : Int)))), .v (.one (.oerr)), .any, .any, .any, .any, .any, .any, .any, .any, .any, .any, .any, .any, .any, .any, .any, .any, .any, .any, .any, .any, .any, .any, .any, .any, .any, .any, .any, .any, .any, .any, .any, .any, .any, .any, .any, .any, .any, .any, .any, .any, .any, .any, .any, .any, .any, .any, .any, .any, .any, .any, .any, .any, .any, .any, .any, .any, .any, .any, .any, .any, .any, .any, .any, .any, .any, .any, .any, .any, .any, .any, .any, .any, .any, .any, .any, .any, .any, .any, .any, .any, .any, .any, .any, .any, .any, .any, .any, .any, .any, .any, .any, .any, .any, .any, .any, .any, .any, .any, .any, .any, .any, .any, .any, .any, .any, .any, .any, .any, .any, .any, .any, .any, .any, .any, .any, .any, .any, .any, .any, .any, .any, .any, .any, .any, .any, .any, .any, .any, .any, .any, .any, .any, .any, .any, .any, .any, .any, .any, .any, .any, .any, .any, .any, .any, .any, .any, .any, .any, .any, .any, .any, .any, .any, .any, .any, .any, .any, .any, .any, .any, .any, .any, .any, .any], [.gro false (.int .u8) (bytesOf a0) 5], 0⟩)))))))))))))) ∧ ((decide ((48 : Int) ≤ (List.getD (bytesOf a0) (0 + (Int.toNat x4)) (0 : Int)))) = false → ((decide ((48 : Int) ≤ (List.getD (bytesOf a0) (0 + (Int.toNat x4)) (0 : Int)))) = false ∧ ((decide ((48 : Int) ≤ (List.getD (bytesOf a0) (0 + (Int.toNat x4)) (0 : Int)))) = false ∧ (false = false ∧ (∃ t102 : Int, (Fun cfg 36 [.one (.sc (.int .u8 (List.getD (bytesOf a0) (0 + (Int.toNat x4)) (0 : Int))))] [] (internal_strconv_lower.R t102) [] ∧ True) ∧ (True) ∧ (((decide ((97 : Int) ≤ t102)) = true → ((decide ((97 : Int) ≤ t102)) = true ∧ (∃ t104 : Int, (Fun cfg 36 [.one (.sc (.int .u8 (List.getD (bytesOf a0) (0 + (Int.toNat x4)) (0 : Int))))] [] (internal_strconv_lower.R t104) [] ∧ True) ∧ ((decide ((97 : Int) ≤ t102)) = true ∧ (True) ∧ ((decide ((97 : Int) ≤ t102)) = true ∧ (((decide (t104 ≤ (122 : Int))) = true → (∃ t106 : Int, (Fun cfg 36 [.one (.sc (.int .u8 (List.getD (bytesOf a0) (0 + (Int.toNat x4)) (0 : Int))))] [] (internal_strconv_lower.R t106) [] ∧ True) ∧ (True) ∧ (True) ∧ (True) ∧ (True) ∧ (((decide ((IntKind.wrap .u8 ((IntKind.wrap .u8 (t106 - (97 : Int))) + (10 : Int))) ≥ (16 : Int))) = true → (True ∧ (((True) ∧ (True) ∧ True) ∧ internal_strconv_ParseUint.l0_Q a0 r .ret ⟨[.any, .any, .any, .any, .any, .any, .v (.one (.sc (.int .u64 (0 : Int)))), .v (.one (.oerr)), .any, .any, .any, .any, .any, .any, .any, .any, .any, .any, .any, .any, .any, .any, .any, .any, .any, .any, .any, .any, .any, .any, .any, .any, .any, .any, .any, .any, .any, .any, .any, .any, .any, .any, .any, .any, .any, .any, .any, .any, .any, .any, .any, .any, .any, .any, .any, .any, .any, .any, .any, .any, .any, .any, .any, .any, .any, .any, .any, .any, .any, .any, .any, .any, .any, .any, .any, .any, .any, .any, .any, .any, .any, .any, .any, .any, .any, .any, .any, .any, .any, .any, .any, .any, .any, .any, .any, .any, .any, .any, .any, .any, .any, .any, .any, .any, .any, .any, .any, .any, .any, .any, .any, .any, .any, .any, .any, .any, .any, .any, .any, .any, .any, .any, .any, .any, .any, .any, .any, .any, .any, .any, .any, .any, .any, .any, .any, .any, .any, .any, .any, .any, .any, .any, .any, .any, .any, .any, .any, .any, .any, .any, .any, .any, .any, .any, .any, .any, .any, .any, .any, .any, .any, .any, .any, .any, .any, .any, .any, .any, .any, .any, .any, .any], [.gro false (.int .u8) (bytesOf a0) 5], 0⟩))) ∧ ((decide ((IntKind.wrap .u8 ((IntKind.wrap .u8 (t106 - (97 : Int))) + (10 : Int))) ≥ (16 : Int))) = false → (True) ∧ (((decide (x3 ≥ (1152921504606846976 : Int))) = true → (True ∧ (((True) ∧ (True) ∧ True) ∧ internal_strconv_ParseUint.l0_Q a0 r .ret ⟨[.any, .any, .any, .any, .any, .any, .v (.one (.sc (.int .u64 (IntKind.wrap .u64 ((shl .u64 (1 : Int) (32 : Int)) - (1 : Int)))))), .v (.one (.oerr)), .any, .any, .any, .any, .any, .any, .any, .any, .any, .any, .any, .any, .any, .any, .any, .any, .any, .any, .any, .any, .any, .any, .any, .any, .any, .any, .any, .any, .any, .any, .any, .any, .any, .any, .any, .any, .any, .any, .any, .any, .any, .any, .any, .any, .any, .any, .any, .any, .any, .any, .any, .any, .any, .any, .any, .any, .any, .any, .any, .any, .any, .any, .any, .any, .any, .any, .any, .any, .any, .any, .any, .any, .any, .any, .any, .any, .any, .any, .any, .any, .any, .any, .any, .any, .any, .any, .any, .any, .any, .any, .any, .any, .any, .any, .any, .any, .any, .any, .any, .any, .any, .any, .any, .any, .any, .any, .any, .any, .any, .any, .any, .any, .any, .any, .any, .any, .any, .any, .any, .any, .any, .any, .any, .any, .any, .any, .any, .any, .any, .any, .any, .any, .any, .any, .any, .any, .any, .any, .any, .any, .any, .any, .any, .any, .any, .any, .any, .any, .any, .any, .any, .any, .any, .any, .any, .any, .any, .any, .any, .any, .any, .any, .any, .any], [.gro false (.int .u8) (bytesOf a0) 5], 0⟩))) ∧ ((decide (x3 ≥ (1152921504606846976 : Int))) = false → (True) ∧ (True) ∧ (True) ∧ (True) ∧ (True) ∧ (((internal_strconv_ParseUint.c6 x3 t106) = false → ((internal_strconv_ParseUint.c6 x3 t106) = false ∧ ((internal_strconv_ParseUint.c6 x3 t106) = false ∧ (True) ∧ ((internal_strconv_ParseUint.c6 x3 t106) = false ∧ (((internal_strconv_ParseUint.c1 x3 t106) = true → (True ∧ (((True) ∧ (True) ∧ True) ∧ internal_strconv_ParseUint.l0_Q a0 r .ret ⟨[.any, .any, .any, .any, .any, .any, .v (.one (.sc (.int .u64 (IntKind.wrap .u64 ((shl .u64 (1 : Int) (32 : Int)) - (1 : Int)))))), .v (.one (.oerr)), .any, .any, .any, .any, .any, .any, .any, .any, .any, .any, .any, .any, .any, .any, .any, .any, .any, .any, .any, .any, .any, .any, .any, .any, .any, .any, .any, .any, .any, .any, .any, .any, .any, .any, .any, .any, .any, .any, .any, .any, .any, .any, .any, .any, .any, .any, .any, .any, .any, .any, .any, .any, .any, .any, .any, .any, .any, .any, .any, .any, .any, .any, .any, .any, .any, .any, .any, .any, .any, .any, .any, .any, .any, .any, .any, .any, .any, .any, .any, .any, .any, .any, .any, .any, .any, .any, .any, .any, .any, .any, .any, .any, .any, .any, .any, .any, .any, .any, .any, .any, .any, .any, .any, .any, .any, .any, .any, .any, .any, .any, .any, .any, .any, .any, .any, .any, .any, .any, .any, .any, .any, .any, .any, .any, .any, .any, .any, .any, .any, .any, .any, .any, .any, .any, .any, .any, .any, .any, .any, .any, .any, .any, .any, .any, .any, .any, .any, .any, .any, .any, .any, .any, .any, .any, .any, .any, .any, .any, .any, .any, .any, .any, .any, .any], [.gro false (.int .u8) (bytesOf a0) 5], 0⟩))) ∧ ((internal_strconv_ParseUint.c1 x3 t106) = false → (True ∧ (True ∧ (True ∧ (True) ∧ (((True) ∧ (True) ∧ True) ∧ TripN cfg (cpath (Tryd.f30.body.getD .skip) [1, 1, 1, 1, 1, 1, 1, 1, 1, 1, 1, 0, 1, 0, 0]) n (internal_strconv_ParseUint.l0_S a0 x2 (IntKind.wrap .u64 ((IntKind.wrap .u64 (x3 * (16 : Int))) + (IntKind.wrap .u64 ((IntKind.wrap .u8 ((IntKind.wrap .u8 (t106 - (97 : Int))) + (10 : Int))))))) (IntKind.wrap .i64 (x4 + (1 : Int)))) (internal_strconv_ParseUint.l0_Q a0 r))))))))))) ∧ ((internal_strconv_ParseUint.c6 x3 t106) = true → ((internal_strconv_ParseUint.c6 x3 t106) = true ∧ ((internal_strconv_ParseUint.c6 x3 t106) = true ∧ ((internal_strconv_ParseUint.c6 x3 t106) = true ∧ (true = true ∧ (True ∧ (((True) ∧ (True) ∧ True) ∧ internal_strconv_ParseUint.l0_Q a0 r .ret ⟨[.any, .any, .any, .any, .any, .any, .v (.one (.sc (.int .u64 (IntKind.wrap .u64 ((shl .u64 (1 : Int) (32 : Int)) - (1 : Int)))))), .v (.one (.oerr)), .any, .any, .any, .any, .any, .any, .any, .any, .any, .any, .any, .any, .any, .any, .any, .any, .any, .any, .any, .any, .any, .any, .any, .any, .any, .any, .any, .any, .any, .any, .any, .any, .any, .any, .any, .any, .any, .any, .any, .any, .any, .any, .any, .any, .any, .any, .any, .any, .any, .any, .any, .any, .any, .any, .any, .any, .any, .any, .any, .any, .any, .any, .any, .any, .any, .any, .any, .any, .any, .any, .any, .any, .any, .any, .any, .any, .any, .any, .any, .any, .any, .any, .any, .any, .any, .any, .any, .any, .any, .any, .any, .any, .any, .any, .any, .any, .any, .any, .any, .any, .any, .any, .any, .any, .any, .any, .any, .any, .any, .any, .any, .any, .any, .any, .any, .any, .any, .any, .any, .any, .any, .any, .any, .any, .any, .any, .any, .any, .any, .any, .any, .any, .any, .any, .any, .any, .any, .any, .any, .any, .any, .any, .any, .any, .any, .any, .any, .any, .any, .any, .any, .any, .any, .any, .any, .any, .any, .any, .any, .any, .any, .any, .any, .any], [.gro false (.int .u8) (bytesOf a0) 5], 0⟩)))))))))))))) ∧ ((decide (t104 ≤ (122 : Int))) = false → (True ∧ (((True) ∧ (True) ∧ True) ∧ internal_strconv_ParseUint.l0_Q a0 r .ret ⟨[.any, .any, .any, .any, .any, .any, .v (.one (.sc (.int .u64 (0 : Int)))), .v (.one (.oerr)), .any, .any, .any, .any, .any, .any, .any, .any, .any, .any, .any, .any, .any, .any, .any, .any, .any, .any, .any, .any, .any, .any, .any, .any, .any, .any, .any, .any, .any, .any, .any, .any, .any, .any, .any, .any, .any, .any, .any, .any, .any, .any, .any, .any, .any, .any, .any, .any, .any, .any, .any, .any, .any, .any, .any, .any, .any, .any, .any, .any, .any, .any, .any, .any, .any, .any, .any, .any, .any, .any, .any, .any, .any, .any, .any, .any, .any, .any, .any, .any, .any, .any, .any, .any, .any, .any, .any, .any, .any, .any, .any, .any, .any, .any, .any, .any, .any, .any, .any, .any, .any, .any, .any, .any, .any, .any, .any, .any, .any, .any, .any, .any, .any, .any, .any, .any, .any, .any, .any, .any, .any, .any, .any, .any, .any, .any, .any, .any, .any, .any, .any, .any, .any, .any, .any, .any, .any, .any, .any, .any, .any, .any, .any, .any, .any, .any, .any, .any, .any, .any, .any, .any, .any, .any, .any, .any, .any, .any, .any, .any, .any, .any, .any, .any], [.gro false (.int .u8) (bytesOf a0) 5], 0⟩))))))))) ∧ ((decide ((97 : Int) ≤ t102)) = false → ((decide ((97 : Int) ≤ t102)) = false ∧ ((decide ((97 : Int) ≤ t102)) = false ∧ ((decide ((97 : Int) ≤ t102)) = false ∧ (false = false ∧ (True ∧ (((True) ∧ (True) ∧ True) ∧ internal_strconv_ParseUint.l0_Q a0 r .ret ⟨[.any, .any, .any, .any, .any, .any, .v (.one (.sc (.int .u64 (0 : Int)))), .v (.one (.oerr)), .any, .any, .any, .any, .any, .any, .any, .any, .any, .any, .any, .any, .any, .any, .any, .any, .any, .any, .any, .any, .any, .any, .any, .any, .any, .any, .any, .any, .any, .any, .any, .any, .any, .any, .any, .any, .any, .any, .any, .any, .any, .any, .any, .any, .any, .any, .any, .any, .any, .any, .any, .any, .any, .any, .any, .any, .any, .any, .any, .any, .any, .any, .any, .any, .any, .any, .any, .any, .any, .any, .any, .any, .any, .any, .any, .any, .any, .any, .any, .any, .any, .any, .any, .any, .any, .any, .any, .any, .any, .any, .any, .any, .any, .any, .any, .any, .any, .any, .any, .any, .any, .any, .any, .any, .any, .any, .any, .any, .any, .any, .any, .any, .any, .any, .any, .any, .any, .any, .any, .any, .any, .any, .any, .any, .any, .any, .any, .any, .any, .any, .any, .any, .any, .any, .any, .any, .any, .any, .any, .any, .any, .any, .any, .any, .any, .any, .any, .any, .any, .any, .any, .any, .any, .any, .any, .any, .any, .any, .any, .any, .any, .any, .any, .any], [.gro false (.int .u8) (bytesOf a0) 5], 0⟩))))))))))))))))))) ∧ ((decide (x4 < (((List.length (bytesOf a0)) : Nat) : Int))) = false → (((True) ∧ (True) ∧ True) ∧ internal_strconv_ParseUint.l0_Q a0 r (.exit 3) ⟨[.any, .any, .any, .any, .any, .any, .any, .any, .any, .v (.one (.sc (.string a0))), .any, .any, .v (.one (.sc (.bool x2))), .v (.one (.sc (.int .u64 x3))), .any, .any, .any, .any, .any, .any, .any, .any, .any, .any, .any, .any, .any, .any, .any, .any, .any, .any, .any, .any, .any, .any, .any, .any, .any, .any, .any, .any, .any, .any, .any, .any, .any, .any, .any, .any, .any, .any, .any, .any, .any, .any, .any, .any, .any, .any, .any, .any, .any, .any, .any, .any, .any, .any, .any, .any, .any, .any, .any, .any, .any, .any, .any, .any, .any, .any, .any, .any, .any, .any, .any, .any, .any, .any, .any, .any, .any, .any, .any, .any, .any, .any, .any, .any, .any, .any, .any, .any, .any, .any, .any, .any, .any, .any, .any, .any, .any, .any, .any, .any, .any, .any, .any, .any, .any, .any, .any, .any, .any, .any, .any, .any, .any, .any, .any, .any, .any, .any, .any, .any, .any, .any, .any, .any, .any, .any, .any, .any, .any, .any, .any, .any, .any, .any, .any, .any, .any, .any, .any, .any, .any, .any, .any, .any, .any, .any, .any, .any, .any, .any, .any, .any, .any, .any, .any, .any, .any, .any], [.gro false (.int .u8) (bytesOf a0) 5], 0⟩)))) (by kernel_rfl) ?_)
    refine ⟨trivial, ?_⟩
    refine ⟨fun b61 => ?_, fun b61 => ?_⟩
    · rw [if_pos (of_decide_eq_true b61)] at h
      obtain ⟨g112, h⟩ := of_guard h
      refine ⟨g112, ?_⟩
      obtain ⟨g111, h⟩ := of_guard h
      refine ⟨g111, ?_⟩
      refine ⟨trivial, ?_⟩
      refine ⟨fun b62 => ?_, fun b62 => ?_⟩
      · rw [if_pos (beq_t b62)] at h
        refine ⟨b62, ?_⟩
        refine ⟨rfl, ?_⟩
        refine ⟨trivial, ?_⟩
        refine ⟨fun b63 => ?_, fun b63 => ?_⟩
        · rw [if_pos (of_decide_eq_true b63)] at h
          refine ⟨b63, ?_⟩
          refine ⟨trivial, ?_⟩
          refine ⟨b63, ?_⟩
          refine ⟨fun b64 => ?_, fun b64 => ?_⟩
          · rw [if_pos (of_decide_eq_true b64)] at h
            refine ⟨trivial, ?_⟩
            refine ⟨trivial, ?_⟩
            refine ⟨trivial, ?_⟩
            refine ⟨fun b65 => ?_, fun b65 => ?_⟩
            · rw [if_pos (of_decide_eq_true b65)] at h
              refine ⟨trivial, ?_⟩
              obtain rfl := Option.some.inj h
              exact ⟨⟨trivial, trivial, trivial⟩, rfl, rfl⟩
            · rw [if_neg (of_decide_eq_false b65)] at h
              refine ⟨trivial, ?_⟩
              refine ⟨fun b66 => ?_, fun b66 => ?_⟩
              · rw [if_pos (of_decide_eq_true b66)] at h
                refine ⟨trivial, ?_⟩
                obtain rfl := Option.some.inj h
                exact ⟨⟨trivial, trivial, trivial⟩, rfl, rfl⟩
              · rw [if_neg (of_decide_eq_false b66)] at h
                refine ⟨trivial, ?_⟩
                refine ⟨trivial, ?_⟩
                refine ⟨trivial, ?_⟩
                refine ⟨trivial, ?_⟩
                refine ⟨trivial, ?_⟩
                refine ⟨fun b67 => ?_, fun b67 => ?_⟩
                · rw [if_neg (of_decide_eq_false b67)] at h
                  refine ⟨b67, ?_⟩
                  refine ⟨b67, ?_⟩
                  refine ⟨trivial, ?_⟩
                  refine ⟨b67, ?_⟩
                  refine ⟨fun b68 => ?_, fun b68 => ?_⟩
                  · rw [if_pos (of_decide_eq_true b68)] at h
                    refine ⟨trivial, ?_⟩
                    obtain rfl := Option.some.inj h
                    exact ⟨⟨trivial, trivial, trivial⟩, rfl, rfl⟩
                  · rw [if_neg (of_decide_eq_false b68)] at h
                    refine ⟨trivial, ?_⟩
                    refine ⟨trivial, ?_⟩
                    refine ⟨trivial, ?_⟩
                    refine ⟨trivial, ?_⟩
                    exact ⟨⟨trivial, trivial, trivial⟩, ih x2 (IntKind.wrap .u64 ((IntKind.wrap .u64 (x3 * (16 : Int))) + (IntKind.wrap .u64 ((IntKind.wrap .u8 ((List.getD (bytesOf a0) (0 + (Int.toNat x4)) (0 : Int)) - (48 : Int))))))) (IntKind.wrap .i64 (x4 + (1 : Int))) r h⟩
                · rw [if_pos (of_decide_eq_true b67)] at h
                  refine ⟨b67, ?_⟩
                  refine ⟨b67, ?_⟩
                  refine ⟨b67, ?_⟩
                  refine ⟨rfl, ?_⟩
                  refine ⟨trivial, ?_⟩
                  obtain rfl := Option.some.inj h
                  exact ⟨⟨trivial, trivial, trivial⟩, rfl, rfl⟩
          · rw [if_neg (of_decide_eq_false b64)] at h
            obtain ⟨t69, ht69, h⟩ := of_bind h
            refine ⟨t69, ⟨internal_strconv_lower.fun_ ht69, trivial⟩, ?_⟩
            refine ⟨trivial, ?_⟩
            refine ⟨fun b70 => ?_, fun b70 => ?_⟩
            · rw [if_pos (of_decide_eq_true b70)] at h
              refine ⟨b70, ?_⟩
              obtain ⟨t71, ht71, h⟩ := of_bind h
              refine ⟨t71, ⟨internal_strconv_lower.fun_ ht71, trivial⟩, ?_⟩
              refine ⟨b70, ?_⟩
              refine ⟨trivial, ?_⟩
              refine ⟨b70, ?_⟩
              refine ⟨fun b72 => ?_, fun b72 => ?_⟩
              · rw [if_pos (of_decide_eq_true b72)] at h
                obtain ⟨t73, ht73, h⟩ := of_bind h
                refine ⟨t73, ⟨internal_strconv_lower.fun_ ht73, trivial⟩, ?_⟩
                refine ⟨trivial, ?_⟩
                refine ⟨trivial, ?_⟩
                refine ⟨trivial, ?_⟩
                refine ⟨trivial, ?_⟩
                refine ⟨fun b74 => ?_, fun b74 => ?_⟩
                · rw [if_pos (of_decide_eq_true b74)] at h
                  refine ⟨trivial, ?_⟩
                  obtain rfl := Option.some.inj h
                  exact ⟨⟨trivial, trivial, trivial⟩, rfl, rfl⟩
                · rw [if_neg (of_decide_eq_false b74)] at h
                  refine ⟨trivial, ?_⟩
                  refine ⟨fun b75 => ?_, fun b75 => ?_⟩
                  · rw [if_pos (of_decide_eq_true b75)] at h
                    refine ⟨trivial, ?_⟩
                    obtain rfl := Option.some.inj h
                    exact ⟨⟨trivial, trivial, trivial⟩, rfl, rfl⟩
                  · rw [if_neg (of_decide_eq_false b75)] at h
                    refine ⟨trivial, ?_⟩
                    refine ⟨trivial, ?_⟩
                    refine ⟨trivial, ?_⟩
                    refine ⟨trivial, ?_⟩
                    refine ⟨trivial, ?_⟩
                    refine ⟨fun b76 => ?_, fun b76 => ?_⟩
                    · rw [if_neg (of_decide_eq_false b76)] at h
                      refine ⟨b76, ?_⟩
                      refine ⟨b76, ?_⟩
                      refine ⟨trivial, ?_⟩
                      refine ⟨b76, ?_⟩
                      refine ⟨fun b77 => ?_, fun b77 => ?_⟩
                      · rw [if_pos (of_decide_eq_true b77)] at h
                        refine ⟨trivial, ?_⟩
                        obtain rfl := Option.some.inj h
                        exact ⟨⟨trivial, trivial, trivial⟩, rfl, rfl⟩
                      · rw [if_neg (of_decide_eq_false b77)] at h
                        refine ⟨trivial, ?_⟩
                        refine ⟨trivial, ?_⟩
                        refine ⟨trivial, ?_⟩
                        refine ⟨trivial, ?_⟩
                        exact ⟨⟨trivial, trivial, trivial⟩, ih x2 (IntKind.wrap .u64 ((IntKind.wrap .u64 (x3 * (16 : Int))) + (IntKind.wrap .u64 ((IntKind.wrap .u8 ((IntKind.wrap .u8 (t73 - (97 : Int))) + (10 : Int))))))) (IntKind.wrap .i64 (x4 + (1 : Int))) r h⟩
                    · rw [if_pos (of_decide_eq_true b76)] at h
                      refine ⟨b76, ?_⟩
                      refine ⟨b76, ?_⟩
                      refine ⟨b76, ?_⟩
                      refine ⟨rfl, ?_⟩
                      refine ⟨trivial, ?_⟩
                      obtain rfl := Option.some.inj h
                      exact ⟨⟨trivial, trivial, trivial⟩, rfl, rfl⟩
              · rw [if_neg (of_decide_eq_false b72)] at h
                refine ⟨trivial, ?_⟩
                obtain rfl := Option.some.inj h
                exact ⟨⟨trivial, trivial, trivial⟩, rfl, rfl⟩
            · rw [if_neg (of_decide_eq_false b70)] at h
              refine ⟨b70, ?_⟩
              refine ⟨b70, ?_⟩
              refine ⟨b70, ?_⟩
              refine ⟨rfl, ?_⟩
              refine ⟨trivial, ?_⟩
              obtain rfl := Option.some.inj h
              exact ⟨⟨trivial, trivial, trivial⟩, rfl, rfl⟩
        · rw [if_neg (of_decide_eq_false b63)] at h
          refine ⟨b63, ?_⟩
          refine ⟨b63, ?_⟩
          refine ⟨rfl, ?_⟩
          obtain ⟨t78, ht78, h⟩ := of_bind h
          refine ⟨t78, ⟨internal_strconv_lower.fun_ ht78, trivial⟩, ?_⟩
          refine ⟨trivial, ?_⟩
          refine ⟨fun b79 => ?_, fun b79 => ?_⟩
          · rw [if_pos (of_decide_eq_true b79)] at h
            refine ⟨b79, ?_⟩
            obtain ⟨t80, ht80, h⟩ := of_bind h
            refine ⟨t80, ⟨internal_strconv_lower.fun_ ht80, trivial⟩, ?_⟩
            refine ⟨b79, ?_⟩
            refine ⟨trivial, ?_⟩
            refine ⟨b79, ?_⟩
            refine ⟨fun b81 => ?_, fun b81 => ?_⟩
            · rw [if_pos (of_decide_eq_true b81)] at h
              obtain ⟨t82, ht82, h⟩ := of_bind h
              refine ⟨t82, ⟨internal_strconv_lower.fun_ ht82, trivial⟩, ?_⟩
              refine ⟨trivial, ?_⟩
              refine ⟨trivial, ?_⟩
              refine ⟨trivial, ?_⟩
              refine ⟨trivial, ?_⟩
              refine ⟨fun b83 => ?_, fun b83 => ?_⟩
              · rw [if_pos (of_decide_eq_true b83)] at h
                refine ⟨trivial, ?_⟩
                obtain rfl := Option.some.inj h
                exact ⟨⟨trivial, trivial, trivial⟩, rfl, rfl⟩
              · rw [if_neg (of_decide_eq_false b83)] at h
                refine ⟨trivial, ?_⟩
                refine ⟨fun b84 => ?_, fun b84 => ?_⟩
                · rw [if_pos (of_decide_eq_true b84)] at h
                  refine ⟨trivial, ?_⟩
                  obtain rfl := Option.some.inj h
                  exact ⟨⟨trivial, trivial, trivial⟩, rfl, rfl⟩
                · rw [if_neg (of_decide_eq_false b84)] at h
                  refine ⟨trivial, ?_⟩
                  refine ⟨trivial, ?_⟩
                  refine ⟨trivial, ?_⟩
                  refine ⟨trivial, ?_⟩
                  refine ⟨trivial, ?_⟩
                  refine ⟨fun b85 => ?_, fun b85 => ?_⟩
                  · rw [if_neg (of_decide_eq_false b85)] at h
                    refine ⟨b85, ?_⟩
                    refine ⟨b85, ?_⟩
                    refine ⟨trivial, ?_⟩
                    refine ⟨b85, ?_⟩
                    refine ⟨fun b86 => ?_, fun b86 => ?_⟩
                    · rw [if_pos (of_decide_eq_true b86)] at h
                      refine ⟨trivial, ?_⟩
                      obtain rfl := Option.some.inj h
                      exact ⟨⟨trivial, trivial, trivial⟩, rfl, rfl⟩
                    · rw [if_neg (of_decide_eq_false b86)] at h
                      refine ⟨trivial, ?_⟩
                      refine ⟨trivial, ?_⟩
                      refine ⟨trivial, ?_⟩
                      refine ⟨trivial, ?_⟩
                      exact ⟨⟨trivial, trivial, trivial⟩, ih x2 (IntKind.wrap .u64 ((IntKind.wrap .u64 (x3 * (16 : Int))) + (IntKind.wrap .u64 ((IntKind.wrap .u8 ((IntKind.wrap .u8 (t82 - (97 : Int))) + (10 : Int))))))) (IntKind.wrap .i64 (x4 + (1 : Int))) r h⟩
                  · rw [if_pos (of_decide_eq_true b85)] at h
                    refine ⟨b85, ?_⟩
                    refine ⟨b85, ?_⟩
                    refine ⟨b85, ?_⟩
                    refine ⟨rfl, ?_⟩
                    refine ⟨trivial, ?_⟩
                    obtain rfl := Option.some.inj h
                    exact ⟨⟨trivial, trivial, trivial⟩, rfl, rfl⟩
            · rw [if_neg (of_decide_eq_false b81)] at h
              refine ⟨trivial, ?_⟩
              obtain rfl := Option.some.inj h
              exact ⟨⟨trivial, trivial, trivial⟩, rfl, rfl⟩
          · rw [if_neg (of_decide_eq_false b79)] at h
            refine ⟨b79, ?_⟩
            refine ⟨b79, ?_⟩
            refine ⟨b79, ?_⟩
            refine ⟨rfl, ?_⟩
            refine ⟨trivial, ?_⟩
            obtain rfl := Option.some.inj h
            exact ⟨⟨trivial, trivial, trivial⟩, rfl, rfl⟩
      · rw [if_neg (beq_f b62)] at h
        refine ⟨b62, ?_⟩
        refine ⟨rfl, ?_⟩
        refine ⟨trivial, ?_⟩
        refine ⟨fun b87 => ?_, fun b87 => ?_⟩
        · rw [if_pos (of_decide_eq_true b87)] at h
          refine ⟨b87, ?_⟩
          refine ⟨trivial, ?_⟩
          refine ⟨b87, ?_⟩
          refine ⟨fun b88 => ?_, fun b88 => ?_⟩
          · rw [if_pos (of_decide_eq_true b88)] at h
            refine ⟨trivial, ?_⟩
            refine ⟨trivial, ?_⟩
            refine ⟨trivial, ?_⟩
            refine ⟨fun b89 => ?_, fun b89 => ?_⟩
            · rw [if_pos (of_decide_eq_true b89)] at h
              refine ⟨trivial, ?_⟩
              obtain rfl := Option.some.inj h
              exact ⟨⟨trivial, trivial, trivial⟩, rfl, rfl⟩
            · rw [if_neg (of_decide_eq_false b89)] at h
              refine ⟨trivial, ?_⟩
              refine ⟨fun b90 => ?_, fun b90 => ?_⟩
              · rw [if_pos (of_decide_eq_true b90)] at h
                refine ⟨trivial, ?_⟩
                obtain rfl := Option.some.inj h
                exact ⟨⟨trivial, trivial, trivial⟩, rfl, rfl⟩
              · rw [if_neg (of_decide_eq_false b90)] at h
                refine ⟨trivial, ?_⟩
                refine ⟨trivial, ?_⟩
                refine ⟨trivial, ?_⟩
                refine ⟨trivial, ?_⟩
                refine ⟨trivial, ?_⟩
                refine ⟨fun b91 => ?_, fun b91 => ?_⟩
                · rw [if_neg (of_decide_eq_false b91)] at h
                  refine ⟨b91, ?_⟩
                  refine ⟨b91, ?_⟩
                  refine ⟨trivial, ?_⟩
                  refine ⟨b91, ?_⟩
                  refine ⟨fun b92 => ?_, fun b92 => ?_⟩
                  · rw [if_pos (of_decide_eq_true b92)] at h
                    refine ⟨trivial, ?_⟩
                    obtain rfl := Option.some.inj h
                    exact ⟨⟨trivial, trivial, trivial⟩, rfl, rfl⟩
                  · rw [if_neg (of_decide_eq_false b92)] at h
                    refine ⟨trivial, ?_⟩
                    refine ⟨trivial, ?_⟩
                    refine ⟨trivial, ?_⟩
                    refine ⟨trivial, ?_⟩
                    exact ⟨⟨trivial, trivial, trivial⟩, ih x2 (IntKind.wrap .u64 ((IntKind.wrap .u64 (x3 * (16 : Int))) + (IntKind.wrap .u64 ((IntKind.wrap .u8 ((List.getD (bytesOf a0) (0 + (Int.toNat x4)) (0 : Int)) - (48 : Int))))))) (IntKind.wrap .i64 (x4 + (1 : Int))) r h⟩
                · rw [if_pos (of_decide_eq_true b91)] at h
                  refine ⟨b91, ?_⟩
                  refine ⟨b91, ?_⟩
                  refine ⟨b91, ?_⟩
                  refine ⟨rfl, ?_⟩
                  refine ⟨trivial, ?_⟩
                  obtain rfl := Option.some.inj h
                  exact ⟨⟨trivial, trivial, trivial⟩, rfl, rfl⟩
          · rw [if_neg (of_decide_eq_false b88)] at h
            obtain ⟨t93, ht93, h⟩ := of_bind h
            refine ⟨t93, ⟨internal_strconv_lower.fun_ ht93, trivial⟩, ?_⟩
            refine ⟨trivial, ?_⟩
            refine ⟨fun b94 => ?_, fun b94 => ?_⟩
            · rw [if_pos (of_decide_eq_true b94)] at h
              refine ⟨b94, ?_⟩
              obtain ⟨t95, ht95, h⟩ := of_bind h
              refine ⟨t95, ⟨internal_strconv_lower.fun_ ht95, trivial⟩, ?_⟩
              refine ⟨b94, ?_⟩
              refine ⟨trivial, ?_⟩
              refine ⟨b94, ?_⟩
              refine ⟨fun b96 => ?_, fun b96 => ?_⟩
              · rw [if_pos (of_decide_eq_true b96)] at h
                obtain ⟨t97, ht97, h⟩ := of_bind h
                refine ⟨t97, ⟨internal_strconv_lower.fun_ ht97, trivial⟩, ?_⟩
                refine ⟨trivial, ?_⟩
                refine ⟨trivial, ?_⟩
                refine ⟨trivial, ?_⟩
                refine ⟨trivial, ?_⟩
                refine ⟨fun b98 => ?_, fun b98 => ?_⟩
                · rw [if_pos (of_decide_eq_true b98)] at h
                  refine ⟨trivial, ?_⟩
                  obtain rfl := Option.some.inj h
                  exact ⟨⟨trivial, trivial, trivial⟩, rfl, rfl⟩
                · rw [if_neg (of_decide_eq_false b98)] at h
                  refine ⟨trivial, ?_⟩
                  refine ⟨fun b99 => ?_, fun b99 => ?_⟩
                  · rw [if_pos (of_decide_eq_true b99)] at h
                    refine ⟨trivial, ?_⟩
                    obtain rfl := Option.some.inj h
                    exact ⟨⟨trivial, trivial, trivial⟩, rfl, rfl⟩
                  · rw [if_neg (of_decide_eq_false b99)] at h
                    refine ⟨trivial, ?_⟩
                    refine ⟨trivial, ?_⟩
                    refine ⟨trivial, ?_⟩
                    refine ⟨trivial, ?_⟩
                    refine ⟨trivial, ?_⟩
                    refine ⟨fun b100 => ?_, fun b100 => ?_⟩
                    · rw [if_neg (of_decide_eq_false b100)] at h
                      refine ⟨b100, ?_⟩
                      refine ⟨b100, ?_⟩
                      refine ⟨trivial, ?_⟩
                      refine ⟨b100, ?_⟩
                      refine ⟨fun b101 => ?_, fun b101 => ?_⟩
                      · rw [if_pos (of_decide_eq_true b101)] at h
                        refine ⟨trivial, ?_⟩
                        obtain rfl := Option.some.inj h
                        exact ⟨⟨trivial, trivial, trivial⟩, rfl, rfl⟩
                      · rw [if_neg (of_decide_eq_false b101)] at h
                        refine ⟨trivial, ?_⟩
                        refine ⟨trivial, ?_⟩
                        refine ⟨trivial, ?_⟩
                        refine ⟨trivial, ?_⟩
                        exact ⟨⟨trivial, trivial, trivial⟩, ih x2 (IntKind.wrap .u64 ((IntKind.wrap .u64 (x3 * (16 : Int))) + (IntKind.wrap .u64 ((IntKind.wrap .u8 ((IntKind.wrap .u8 (t97 - (97 : Int))) + (10 : Int))))))) (IntKind.wrap .i64 (x4 + (1 : Int))) r h⟩
                    · rw [if_pos (of_decide_eq_true b100)] at h
                      refine ⟨b100, ?_⟩
                      refine ⟨b100, ?_⟩
                      refine ⟨b100, ?_⟩
                      refine ⟨rfl, ?_⟩
                      refine ⟨trivial, ?_⟩
                      obtain rfl := Option.some.inj h
                      exact ⟨⟨trivial, trivial, trivial⟩, rfl, rfl⟩
              · rw [if_neg (of_decide_eq_false b96)] at h
                refine ⟨trivial, ?_⟩
                obtain rfl := Option.some.inj h
                exact ⟨⟨trivial, trivial, trivial⟩, rfl, rfl⟩
            · rw [if_neg (of_decide_eq_false b94)] at h
              refine ⟨b94, ?_⟩
              refine ⟨b94, ?_⟩
              refine ⟨b94, ?_⟩
              refine ⟨rfl, ?_⟩
              refine ⟨trivial, ?_⟩
              obtain rfl := Option.some.inj h
              exact ⟨⟨trivial, trivial, trivial⟩, rfl, rfl⟩
        · rw [if_neg (of_decide_eq_false b87)] at h
          refine ⟨b87, ?_⟩
          refine ⟨b87, ?_⟩
          refine ⟨rfl, ?_⟩
          obtain ⟨t102, ht102, h⟩ := of_bind h
          refine ⟨t102, ⟨internal_strconv_lower.fun_ ht102, trivial⟩, ?_⟩
          refine ⟨trivial, ?_⟩
          refine ⟨fun b103 => ?_, fun b103 => ?_⟩
          · rw [if_pos (of_decide_eq_true b103)] at h
            refine ⟨b103, ?_⟩
            obtain ⟨t104, ht104, h⟩ := of_bind h
            refine ⟨t104, ⟨internal_strconv_lower.fun_ ht104, trivial⟩, ?_⟩
            refine ⟨b103, ?_⟩
            refine ⟨trivial, ?_⟩
            refine ⟨b103, ?_⟩
            refine ⟨fun b105 => ?_, fun b105 => ?_⟩
            · rw [if_pos (of_decide_eq_true b105)] at h
              obtain ⟨t106, ht106, h⟩ := of_bind h
              refine ⟨t106, ⟨internal_strconv_lower.fun_ ht106, trivial⟩, ?_⟩
              refine ⟨trivial, ?_⟩
              refine ⟨trivial, ?_⟩
              refine ⟨trivial, ?_⟩
              refine ⟨trivial, ?_⟩
              refine ⟨fun b107 => ?_, fun b107 => ?_⟩
              · rw [if_pos (of_decide_eq_true b107)] at h
                refine ⟨trivial, ?_⟩
                obtain rfl := Option.some.inj h
                exact ⟨⟨trivial, trivial, trivial⟩, rfl, rfl⟩
              · rw [if_neg (of_decide_eq_false b107)] at h
                refine ⟨trivial, ?_⟩
                refine ⟨fun b108 => ?_, fun b108 => ?_⟩
                · rw [if_pos (of_decide_eq_true b108)] at h
                  refine ⟨trivial, ?_⟩
                  obtain rfl := Option.some.inj h
                  exact ⟨⟨trivial, trivial, trivial⟩, rfl, rfl⟩
                · rw [if_neg (of_decide_eq_false b108)] at h
                  refine ⟨trivial, ?_⟩
                  refine ⟨trivial, ?_⟩
                  refine ⟨trivial, ?_⟩
                  refine ⟨trivial, ?_⟩
                  refine ⟨trivial, ?_⟩
                  refine ⟨fun b109 => ?_, fun b109 => ?_⟩
                  · rw [if_neg (of_decide_eq_false b109)] at h
                    refine ⟨b109, ?_⟩
                    refine ⟨b109, ?_⟩
                    refine ⟨trivial, ?_⟩
                    refine ⟨b109, ?_⟩
                    refine ⟨fun b110 => ?_, fun b110 => ?_⟩
                    · rw [if_pos (of_decide_eq_true b110)] at h
                      refine ⟨trivial, ?_⟩
                      obtain rfl := Option.some.inj h
                      exact ⟨⟨trivial, trivial, trivial⟩, rfl, rfl⟩
                    · rw [if_neg (of_decide_eq_false b110)] at h
                      refine ⟨trivial, ?_⟩
                      refine ⟨trivial, ?_⟩
                      refine ⟨trivial, ?_⟩
                      refine ⟨trivial, ?_⟩
                      exact ⟨⟨trivial, trivial, trivial⟩, ih x2 (IntKind.wrap .u64 ((IntKind.wrap .u64 (x3 * (16 : Int))) + (IntKind.wrap .u64 ((IntKind.wrap .u8 ((IntKind.wrap .u8 (t106 - (97 : Int))) + (10 : Int))))))) (IntKind.wrap .i64 (x4 + (1 : Int))) r h⟩
                  · rw [if_pos (of_decide_eq_true b109)] at h
                    refine ⟨b109, ?_⟩
                    refine ⟨b109, ?_⟩
                    refine ⟨b109, ?_⟩
                    refine ⟨rfl, ?_⟩
                    refine ⟨trivial, ?_⟩
                    obtain rfl := Option.some.inj h
                    exact ⟨⟨trivial, trivial, trivial⟩, rfl, rfl⟩
            · rw [if_neg (of_decide_eq_false b105)] at h
              refine ⟨trivial, ?_⟩
              obtain rfl := Option.some.inj h
              exact ⟨⟨trivial, trivial, trivial⟩, rfl, rfl⟩
          · rw [if_neg (of_decide_eq_false b103)] at h
            refine ⟨b103, ?_⟩
            refine ⟨b103, ?_⟩
            refine ⟨b103, ?_⟩
            refine ⟨rfl, ?_⟩
            refine ⟨trivial, ?_⟩
            obtain rfl := Option.some.inj h
            exact ⟨⟨trivial, trivial, trivial⟩, rfl, rfl⟩
    · rw [if_neg (of_decide_eq_false b61)] at h
      obtain rfl := Option.some.inj h
      exact ⟨⟨trivial, trivial, trivial⟩, rfl, rfl⟩
def internal_strconv_ParseUint.f (a0 : ByteArray) : Option ((Int) ⊕ (Int)) :=
  if a0 = ByteArray.empty then
    some (.inl (0 : Int))
  else
    (internal_strconv_ParseUint.l0 a0 FUEL false (0 : Int) (0 : Int)).bind fun t60 =>
    match t60 with
    | .inl t116 =>
      if t116.1 = true then
        none
      else
        some (.inr t116.2)
    | .inr t120 =>
      some (.inl t120)
def internal_strconv_ParseUint.R : (Int) ⊕ (Int) → Tm
  | .inl r => .tup [.one (.sc (.int .u64 r)), .one (.oerr)]
  | .inr r => .tup [.one (.sc (.int .u64 r)), .one (.err none)]
def internal_strconv_ParseUint.B (a0 : ByteArray) : (Int) ⊕ (Int) → List Box
  | .inl r => []
  | .inr r => []
theorem internal_strconv_ParseUint.fun_ {a0 : ByteArray} {r : (Int) ⊕ (Int)} (h : internal_strconv_ParseUint.f a0 = some r) : Fun cfg 30 [.one (.sc (.string a0)), .one (.sc (.int .i64 (16 : Int))), .one (.sc (.int .i64 (32 : Int)))] [] (internal_strconv_ParseUint.R r) (internal_strconv_ParseUint.B a0 r) := by
  unfold internal_strconv_ParseUint.f at h
  refine fun_of_run cfg_ok (f := 30) (fn := Tryd.f30) Tryd.func30 rfl (by kernel_rfl) (rs := [.tmp 6, .tmp 7]) rfl (nt := 172) rfl (l := fin) (k := (.br (.adj [] (.adj [] (.adj [] .nil))) (.one true (.one true (.one true (.one true (.one false (.one false (.one false (.one false (.one false (.one false (.one true (.adj [] (.adj [] (.adj [] (.adj [] (.adj [] (.adj [] (.adj [.keep [1, 8, 9, 10, 11, 12, 13, 99, 100, 101]] (.alt (.sub (Bool × Int) (fun _ => (.exit 3)) (fun t116 => ⟨[.any, .any, .any, .any, .any, .any, .any, .any, .any, .v (.one (.sc (.string a0))), .any, .any, .v (.one (.sc (.bool t116.1))), .v (.one (.sc (.int .u64 t116.2))), .any, .any, .any, .any, .any, .any, .any, .any, .any, .any, .any, .any, .any, .any, .any, .any, .any, .any, .any, .any, .any, .any, .any, .any, .any, .any, .any, .any, .any, .any, .any, .any, .any, .any, .any, .any, .any, .any, .any, .any, .any, .any, .any, .any, .any, .any, .any, .any, .any, .any, .any, .any, .any, .any, .any, .any, .any, .any, .any, .any, .any, .any, .any, .any, .any, .any, .any, .any, .any, .any, .any, .any, .any, .any, .any, .any, .any, .any, .any, .any, .any, .any, .any, .any, .any, .any, .any, .any, .any, .any, .any, .any, .any, .any, .any, .any, .any, .any, .any, .any, .any, .any, .any, .any, .any, .any, .any, .any, .any, .any, .any, .any, .any, .any, .any, .any, .any, .any, .any, .any, .any, .any, .any, .any, .any, .any, .any, .any, .any, .any, .any, .any, .any, .any, .any, .any, .any, .any, .any, .any, .any, .any, .any, .any, .any, .any, .any, .any, .any, .any, .any, .any, .any, .any, .any, .any, .any, .any], [.gro false (.int .u8) (bytesOf a0) 5], 0⟩) (fun t116 => (.br (.one true .nil) (.one false (.one false (.one false (.one false (.adj [] (.adj [] (.adj [] (.adj [.drop 0] .nil))))))))))) (.sub (Int) (fun _ => .ret) (fun t120 => ⟨[.any, .any, .any, .any, .any, .any, .v (.one (.sc (.int .u64 t120))), .v (.one (.oerr)), .any, .any, .any, .any, .any, .any, .any, .any, .any, .any, .any, .any, .any, .any, .any, .any, .any, .any, .any, .any, .any, .any, .any, .any, .any, .any, .any, .any, .any, .any, .any, .any, .any, .any, .any, .any, .any, .any, .any, .any, .any, .any, .any, .any, .any, .any, .any, .any, .any, .any, .any, .any, .any, .any, .any, .any, .any, .any, .any, .any, .any, .any, .any, .any, .any, .any, .any, .any, .any, .any, .any, .any, .any, .any, .any, .any, .any, .any, .any, .any, .any, .any, .any, .any, .any, .any, .any, .any, .any, .any, .any, .any, .any, .any, .any, .any, .any, .any, .any, .any, .any, .any, .any, .any, .any, .any, .any, .any, .any, .any, .any, .any, .any, .any, .any, .any, .any, .any, .any, .any, .any, .any, .any, .any, .any, .any, .any, .any, .any, .any, .any, .any, .any, .any, .any, .any, .any, .any, .any, .any, .any, .any, .any, .any, .any, .any, .any, .any, .any, .any, .any, .any, .any, .any, .any, .any, .any, .any, .any, .any, .any, .any, .any, .any], [.gro false (.int .u8) (bytesOf a0) 5], 0⟩) (fun t120 => (.adj [.drop 0] .nil)))))))))))))))))))))))) (to_goal (q := (True) ∧ (((a0.toList == ByteArray.empty.toList) = true → (True ∧ (True ∧ ((True) ∧ (True) ∧ (.tup [.one (.sc (.int .u64 (0 : Int))), .one (.oerr)] : Tm) = internal_strconv_ParseUint.R r ∧ ([] : List Box) = internal_strconv_ParseUint.B a0 r)))) ∧ ((a0.toList == ByteArray.empty.toList) = false → (True) ∧ (True) ∧ (true = true ∧ (true = true ∧ (True) ∧ (true = true ∧ (true = true ∧ (True) ∧ (false = false ∧ (True) ∧ (false = false ∧ (false = false ∧ (True) ∧ (false = false ∧ (false = false ∧ (True) ∧ (false = false ∧ (True) ∧ (true = true ∧ (True ∧ (True ∧ (True) ∧ (0 ≤ (32 : Int)) ∧ (True) ∧ (True ∧ (True ∧ (True ∧ (True) ∧ (True) ∧ (True ∧ (((True) ∧ True) ∧ ((∃ t116 : Bool × Int, Trip cfg (.loop (cpath (Tryd.f30.body.getD .skip) [1, 1, 1, 1, 1, 1, 1, 1, 1, 1, 1, 0, 1, 0, 0])) ⟨[.any, .v (.one (.sc (.int .i64 (16 : Int)))), .any, .any, .any, .any, .any, .any, .v (.one (.sc (.bool false))), .v (.one (.sc (.string a0))), .v (.one (.sc (.int .u64 (1152921504606846976 : Int)))), .v (.one (.sc (.int .u64 (IntKind.wrap .u64 ((shl .u64 (1 : Int) (32 : Int)) - (1 : Int)))))), .v (.one (.sc (.bool false))), .v (.one (.sc (.int .u64 (0 : Int)))), .any, .any, .any, .any, .any, .any, .any, .any, .any, .any, .any, .any, .any, .any, .any, .any, .any, .any, .any, .any, .any, .any, .any, .any, .any, .any, .any, .any, .any, .any, .any, .any, .any, .any, .any, .any, .any, .any, .any, .any, .any, .any, .any, .any, .any, .any, .any, .any, .any, .any, .any, .any, .any, .any, .any, .any, .any, .any, .any, .any, .any, .any, .any, .any, .any, .any, .any, .any, .any, .any, .any, .any, .any, .any, .any, .any, .any, .any, .any, .any, .any, .any, .any, .any, .any, .v (.one (.os 0 0 0 1 (List.length (bytesOf a0)) none)), .v (.one (.sc (.int .i64 (((List.length (bytesOf a0)) : Nat) : Int)))), .v (.one (.sc (.int .i64 (0 : Int)))), .any, .any, .any, .any, .any, .any, .any, .any, .any, .any, .any, .any, .any, .any, .any, .any, .any, .any, .any, .any, .any, .any, .any, .any, .any, .any, .any, .any, .any, .any, .any, .any, .any, .any, .any, .any, .any, .any, .any, .any, .any, .any, .any, .any, .any, .any, .any, .any, .any, .any, .any, .any, .any, .any, .any, .any, .any, .any, .any, .any, .any, .any, .any, .any, .any, .any, .any, .any, .any, .any], [.gro false (.int .u8) (bytesOf a0) 5], 0⟩ (fun e s => e = (.exit 3) ∧ s = ⟨[.any, .any, .any, .any, .any, .any, .any, .any, .any, .v (.one (.sc (.string a0))), .any, .any, .v (.one (.sc (.bool t116.1))), .v (.one (.sc (.int .u64 t116.2))), .any, .any, .any, .any, .any, .any, .any, .any, .any, .any, .any, .any, .any, .any, .any, .any, .any, .any, .any, .any, .any, .any, .any, .any, .any, .any, .any, .any, .any, .any, .any, .any, .any, .any, .any, .any, .any, .any, .any, .any, .any, .any, .any, .any, .any, .any, .any, .any, .any, .any, .any, .any, .any, .any, .any, .any, .any, .any, .any, .any, .any, .any, .any, .any, .any, .any, .any, .any, .any, .any, .any, .any, .any, .any, .any, .any, .any, .any, .any, .any, .any, .any, .any, .any, .any, .any, .any, .any, .any, .any, .any, .any, .any, .any, .any, .any, .any, .any, .any, .any, .any, .any, .any, .any, .any, .any, .any, .any, .any, .any, .any, .any, .any, .any, .any, .any, .any, .any, .any, .any, .any, .any, .any, .any, .any, .any, .any, .any, .any, .any, .any, .any, .any, .any, .any, .any, .any, .any, .any, .any, .any, .any, .any, .any, .any, .any, .any, .any, .any, .any, .any, .any, .any, .any, .any, .any, .any, .any], [.gro false (.int .u8) (bytesOf a0) 5], 0⟩) ∧ ((t116.1 = true → (t116.1 = true ∧ False)) ∧ (t116.1 = false → (t116.1 = false ∧ (t116.1 = false ∧ (t116.1 = false ∧ (false = false ∧ (True ∧ (True ∧ (True ∧ ((True) ∧ ((True) ∧ True) ∧ (.tup [.one (.sc (.int .u64 t116.2)), .one (.err none)] : Tm) = internal_strconv_ParseUint.R r ∧ ([] : List Box) = internal_strconv_ParseUint.B a0 r))))))))))) ∨ (∃ t120 : Int, Trip cfg (.loop (cpath (Tryd.f30.body.getD .skip) [1, 1, 1, 1, 1, 1, 1, 1, 1, 1, 1, 0, 1, 0, 0])) ⟨[.any, .v (.one (.sc (.int .i64 (16 : Int)))), .any, .any, .any, .any, .any, .any, .v (.one (.sc (.bool false))), .v (.one (.sc (.string a0))), .v (.one (.sc (.int .u64 (1152921504606846976 : Int)))), .v (.one (.sc (.int .u64 (IntKind.wrap .u64 ((shl .u64 (1 : Int) (32 : Int)) - (1 : Int)))))), .v (.one (.sc (.bool false))), .v (.one (.sc (.int .u64 (0 : Int)))), .any, .any, .any, .any, .any, .any, .any, .any, .any, .any, .any, .any, .any, .any, .any, .any, .any, .any, .any, .any, .any, .any, .any, .any, .any, .any, .any, .any, .any, .any, .any, .any, .any, .any, .any, .any, .any, .any, .any, .any, .any, .any, .any, .any, .any, .any, .any, .any, .any, .any, .any, .any, .any, .any, .any, .any, .any, .any, .any, .any, .any, .any, .any, .any, .any, .any, .any, .any, .any, .any, .any, .any, .any, .any, .any, .any, .any, .any, .any, .any, .any, .any, .any, .any, .any, .v (.one (.os 0 0 0 1 (List.length (bytesOf a0)) none)), .v (.one (.sc (.int .i64 (((List.length (bytesOf a0)) : Nat) : Int)))), .v (.one (.sc (.int .i64 (0 : Int)))), .any, .any, .any, .any, .any, .any, .any, .any, .any, .any, .any, .any, .any, .any, .any, .any, .any, .any, .any, .any, .any, .any, .any, .any, .any, .any, .any, .any, .any, .any, .any, .any, .any, .any, .any, .any, .any, .any, .any, .any, .any, .any, .any, .any, .any, .any, .any, .any, .any, .any, .any, .any, .any, .any, .any, .any, .any, .any, .any, .any, .any, .any, .any, .any, .any, .any, .any, .any, .any, .any], [.gro false (.int .u8) (bytesOf a0) 5], 0⟩ (fun e s => e = .ret ∧ s = ⟨[.any, .any, .any, .any, .any, .any, .v (.one (.sc (.int .u64 t120))), .v (.one (.oerr)), .any, .any, .any, .any, .any, .any, .any, .any, .any, .any, .any, .any, .any, .any, .any, .any, .any, .any, .any, .any, .any, .any, .any, .any, .any, .any, .any, .any, .any, .any, .any, .any, .any, .any, .any, .any, .any, .any, .any, .any, .any, .any, .any, .any, .any, .any, .any, .any, .any, .any, .any, .any, .any, .any, .any, .any, .any, .any, .any, .any, .any, .any, .any, .any, .any, .any, .any, .any, .any, .any, .any, .any, .any, .any, .any, .any, .any, .any, .any, .any, .any, .any, .any, .any, .any, .any, .any, .any, .any, .any, .any, .any, .any, .any, .any, .any, .any, .any, .any, .any, .any, .any, .any, .any, .any, .any, .any, .any, .any, .any, .any, .any, .any, .any, .any, .any, .any, .any, .any, .any, .any, .any, .any, .any, .any, .any, .any, .any, .any, .any, .any, .any, .any, .any, .any, .any, .any, .any, .any, .any, .any, .any, .any, .any, .any, .any, .any, .any, .any, .any, .any, .any, .any, .any, .any, .any, .any, .any, .any, .any, .any, .any, .any, .any], [.gro false (.int .u8) (bytesOf a0) 5], 0⟩) ∧ ((True) ∧ ((True) ∧ True) ∧ (.tup [.one (.sc (.int .u64 t120)), .one (.oerr)] : Tm) = internal_strconv_ParseUint.R r ∧ ([] : List Box) = internal_strconv_ParseUint.B a0 r)))))))))))))))))))))))) (by kernel_rfl) ?_)
  refine ⟨trivial, ?_⟩
  refine ⟨fun b1 => ?_, fun b1 => ?_⟩
  · rw [if_pos (str_t b1)] at h
    refine ⟨trivial, ?_⟩
    refine ⟨trivial, ?_⟩
    obtain rfl := Option.some.inj h
    exact ⟨trivial, trivial, rfl, rfl⟩
  · rw [if_neg (str_f b1)] at h
    refine ⟨trivial, ?_⟩
    refine ⟨trivial, ?_⟩
    refine ⟨rfl, ?_⟩
    refine ⟨rfl, ?_⟩
    refine ⟨trivial, ?_⟩
    refine ⟨rfl, ?_⟩
    refine ⟨rfl, ?_⟩
    refine ⟨trivial, ?_⟩
    refine ⟨rfl, ?_⟩
    refine ⟨trivial, ?_⟩
    refine ⟨rfl, ?_⟩
    refine ⟨rfl, ?_⟩
    refine ⟨trivial, ?_⟩
    refine ⟨rfl, ?_⟩
    refine ⟨rfl, ?_⟩
    refine ⟨trivial, ?_⟩
    refine ⟨rfl, ?_⟩
    refine ⟨trivial, ?_⟩
    refine ⟨rfl, ?_⟩
    refine ⟨trivial, ?_⟩
    refine ⟨trivial, ?_⟩
    refine ⟨trivial, ?_⟩
    refine ⟨(by decide), ?_⟩
    refine ⟨trivial, ?_⟩
    refine ⟨trivial, ?_⟩
    refine ⟨trivial, ?_⟩
    refine ⟨trivial, ?_⟩
    refine ⟨trivial, ?_⟩
    refine ⟨trivial, ?_⟩
    refine ⟨trivial, ?_⟩
    obtain ⟨t60, ht60, h⟩ := of_bind h
    refine ⟨⟨trivial, trivial⟩, ?_⟩
    rcases t60 with t116 | t120
    · dsimp only at h
      left
      refine ⟨t116, Trip.loop FUEL (internal_strconv_ParseUint.l0_ok a0 FUEL false (0 : Int) (0 : Int) (.inl t116) ht60), ?_⟩
      refine ⟨fun b119 => ?_, fun b119 => ?_⟩
      · rw [if_pos b119] at h
        refine ⟨b119, ?_⟩
        cases h
      · rw [if_neg (ff b119)] at h
        refine ⟨b119, ?_⟩
        refine ⟨b119, ?_⟩
        refine ⟨b119, ?_⟩
        refine ⟨rfl, ?_⟩
        refine ⟨trivial, ?_⟩
        refine ⟨trivial, ?_⟩
        refine ⟨trivial, ?_⟩
        obtain rfl := Option.some.inj h
        exact ⟨trivial, ⟨trivial, trivial⟩, rfl, rfl⟩
    · dsimp only at h
      right
      refine ⟨t120, Trip.loop FUEL (internal_strconv_ParseUint.l0_ok a0 FUEL false (0 : Int) (0 : Int) (.inr t120) ht60), ?_⟩
      obtain rfl := Option.some.inj h
      exact ⟨trivial, ⟨trivial, trivial⟩, rfl, rfl⟩
/-! strconv.ParseUint -/
def strconv_ParseUint.f (a0 : ByteArray) : Option (Int × (Option Int)) :=
  (internal_strconv_ParseUint.f a0).bind fun t1 =>
  match t1 with
  | .inl t2 =>
    none
  | .inr t3 =>
    some (t3, none)
def strconv_ParseUint.R (r : Int × (Option Int)) : Tm := .tup [.one (.sc (.int .u64 r.1)), .one (.err r.2)]
def strconv_ParseUint.B (a0 : ByteArray) (r : Int × (Option Int)) : List Box := []
theorem strconv_ParseUint.fun_ {a0 : ByteArray} {r : Int × (Option Int)} (h : strconv_ParseUint.f a0 = some r) : Fun cfg 28 [.one (.sc (.string a0)), .one (.sc (.int .i64 (16 : Int))), .one (.sc (.int .i64 (32 : Int)))] [] (strconv_ParseUint.R r) (strconv_ParseUint.B a0 r) := by
  unfold strconv_ParseUint.f at h
  refine fun_of_run cfg_ok (f := 28) (fn := Tryd.f28) Tryd.func28 rfl (by kernel_rfl) (rs := [.tmp 6, .tmp 7]) rfl (nt := 26) rfl (l := fin) (k := (.alt (.callR true [] [] (Int) (fun t2 => (internal_strconv_ParseUint.R (.inl t2))) (fun t2 => (internal_strconv_ParseUint.B a0 (.inl t2))) (fun t2 => (.one true .nil))) (.callR true [] [] (Int) (fun t3 => (internal_strconv_ParseUint.R (.inr t3))) (fun t3 => (internal_strconv_ParseUint.B a0 (.inr t3))) (fun t3 => (.one false (.adj [] (.adj [] (.adj [] (.adj [] .nil))))))))) (to_goal (q := ((∃ t2 : Int, (Fun cfg 30 [.one (.sc (.string a0)), .one (.sc (.int .i64 (16 : Int))), .one (.sc (.int .i64 (32 : Int)))] [] (internal_strconv_ParseUint.R (.inl t2)) (internal_strconv_ParseUint.B a0 (.inl t2)) ∧ True) ∧ (True) ∧ (true = true ∧ False)) ∨ (∃ t3 : Int, (Fun cfg 30 [.one (.sc (.string a0)), .one (.sc (.int .i64 (16 : Int))), .one (.sc (.int .i64 (32 : Int)))] [] (internal_strconv_ParseUint.R (.inr t3)) (internal_strconv_ParseUint.B a0 (.inr t3)) ∧ True) ∧ (True) ∧ (false = false ∧ (True ∧ (True ∧ (True ∧ ((True) ∧ (True) ∧ (.tup [.one (.sc (.int .u64 t3)), .one (.err none)] : Tm) = strconv_ParseUint.R r ∧ ([] : List Box) = strconv_ParseUint.B a0 r)))))))) (by kernel_rfl) ?_)
  obtain ⟨t1, ht1, h⟩ := of_bind h
  rcases t1 with t2 | t3
  · dsimp only at h
    left
    refine ⟨t2, ⟨internal_strconv_ParseUint.fun_ ht1, trivial⟩, ?_⟩
    refine ⟨trivial, ?_⟩
    refine ⟨rfl, ?_⟩
    cases h
  · dsimp only at h
    right
    refine ⟨t3, ⟨internal_strconv_ParseUint.fun_ ht1, trivial⟩, ?_⟩
    refine ⟨trivial, ?_⟩
    refine ⟨rfl, ?_⟩
    refine ⟨trivial, ?_⟩
    refine ⟨trivial, ?_⟩
    refine ⟨trivial, ?_⟩
    obtain rfl := Option.some.inj h
    exact ⟨trivial, trivial, rfl, rfl⟩
/-! halter/sigset.Parse -/
def sigset_Parse.f (a0 : ByteArray) : Option (Int × (Option Int)) :=
  if ¬ ((ByteArray.size a0 : Nat) : Int) = (8 : Int) then
    some ((0 : Int), (some (22 : Int)))
  else
    (strconv_ParseUint.f a0).bind fun t2 =>
    if ¬ (t2.2 = none) then
      some ((0 : Int), (some (22 : Int)))
    else
      if t2.1 > (2147483647 : Int) then
        some ((0 : Int), (some (22 : Int)))
      else
        (sigset_Text.f (IntKind.wrap .u32 (t2.1))).bind fun t5 =>
        if ¬ (t5 = a0) then
          some ((0 : Int), (some (22 : Int)))
        else
          some ((IntKind.wrap .u32 (t2.1)), none)
def sigset_Parse.R (r : Int × (Option Int)) : Tm := .tup [.one (.sc (.int .u32 r.1)), .one (.err r.2)]
theorem sigset_Parse.fun_ {a0 : ByteArray} {r : Int × (Option Int)} (h : sigset_Parse.f a0 = some r) : Fun cfg 21 [.one (.sc (.string a0))] [] (sigset_Parse.R r) [] := by
  unfold sigset_Parse.f at h
  refine fun_of_run cfg_ok (f := 21) (fn := Tryd.f21) Tryd.func21 rfl (by kernel_rfl) (rs := [.tmp 2, .tmp 3]) rfl (nt := 32) rfl (l := fin) (k := (.br (.adj [] (.adj [] (.adj [] .nil))) (.callR true [] [] (Int × (Option Int)) (fun t2 => (strconv_ParseUint.R t2)) (fun t2 => (strconv_ParseUint.B a0 t2)) (fun t2 => (.br (.one true (.one true (.one true (.one true (.one true (.one true (.one true (.one true (.adj [] (.adj [] (.adj [] .nil))))))))))) (.one false (.one false (.br (.one true (.one true (.one true (.one true (.one true (.adj [] (.adj [] (.adj [] .nil)))))))) (.one false (.call true [] (ByteArray) (fun t5 => sigset_Text.R t5) (fun t5 => (.one false (.one false (.one false (.br (.adj [] (.adj [] (.adj [] .nil))) (.adj [] (.adj [] (.adj [] (.adj [] .nil))))))))))))))))))) (to_goal (q := (True) ∧ (True) ∧ (((((ByteArray.size a0 : Nat) : Int) != (8 : Int)) = true → (True ∧ (True ∧ ((True) ∧ (True) ∧ (.tup [.one (.sc (.int .u32 (0 : Int))), .one (.err (some (22 : Int)))] : Tm) = sigset_Parse.R r ∧ ([] : List Box) = [])))) ∧ ((((ByteArray.size a0 : Nat) : Int) != (8 : Int)) = false → (∃ t2 : Int × (Option Int), (Fun cfg 28 [.one (.sc (.string a0)), .one (.sc (.int .i64 (16 : Int))), .one (.sc (.int .i64 (32 : Int)))] [] (strconv_ParseUint.R t2) (strconv_ParseUint.B a0 t2) ∧ True) ∧ (True) ∧ (True) ∧ (((!(Option.isNone t2.2)) = false → ((!(Option.isNone t2.2)) = false ∧ (True) ∧ ((!(Option.isNone t2.2)) = false ∧ (((decide (t2.1 > (2147483647 : Int))) = false → ((decide (t2.1 > (2147483647 : Int))) = false ∧ (∃ t5 : ByteArray, (Fun cfg 22 [.one (.sc (.int .u32 (IntKind.wrap .u32 (t2.1))))] [] (sigset_Text.R t5) [] ∧ True) ∧ ((decide (t2.1 > (2147483647 : Int))) = false ∧ ((decide (t2.1 > (2147483647 : Int))) = false ∧ (True) ∧ ((decide (t2.1 > (2147483647 : Int))) = false ∧ (((!(t5.toList == a0.toList)) = true → (True ∧ (True ∧ ((True) ∧ (True) ∧ (.tup [.one (.sc (.int .u32 (0 : Int))), .one (.err (some (22 : Int)))] : Tm) = sigset_Parse.R r ∧ ([] : List Box) = [])))) ∧ ((!(t5.toList == a0.toList)) = false → (True ∧ (True ∧ (True ∧ ((True) ∧ (True) ∧ (.tup [.one (.sc (.int .u32 (IntKind.wrap .u32 (t2.1)))), .one (.err none)] : Tm) = sigset_Parse.R r ∧ ([] : List Box) = [])))))))))))) ∧ ((decide (t2.1 > (2147483647 : Int))) = true → ((decide (t2.1 > (2147483647 : Int))) = true ∧ ((decide (t2.1 > (2147483647 : Int))) = true ∧ ((decide (t2.1 > (2147483647 : Int))) = true ∧ ((decide (t2.1 > (2147483647 : Int))) = true ∧ (true = true ∧ (True ∧ (True ∧ ((True) ∧ (True) ∧ (.tup [.one (.sc (.int .u32 (0 : Int))), .one (.err (some (22 : Int)))] : Tm) = sigset_Parse.R r ∧ ([] : List Box) = []))))))))))))) ∧ ((!(Option.isNone t2.2)) = true → ((!(Option.isNone t2.2)) = true ∧ ((!(Option.isNone t2.2)) = true ∧ (true = true ∧ (true = true ∧ (true = true ∧ (true = true ∧ (true = true ∧ (true = true ∧ (True ∧ (True ∧ ((True) ∧ (True) ∧ (.tup [.one (.sc (.int .u32 (0 : Int))), .one (.err (some (22 : Int)))] : Tm) = sigset_Parse.R r ∧ ([] : List Box) = []))))))))))))))))) (by kernel_rfl) ?_)
  refine ⟨trivial, ?_⟩
  refine ⟨trivial, ?_⟩
  refine ⟨fun b1 => ?_, fun b1 => ?_⟩
  · rw [if_pos (bne_t b1)] at h
    refine ⟨trivial, ?_⟩
    refine ⟨trivial, ?_⟩
    obtain rfl := Option.some.inj h
    exact ⟨trivial, trivial, rfl, rfl⟩
  · rw [if_neg (not_not_intro (bne_f b1))] at h
    obtain ⟨t2, ht2, h⟩ := of_bind h
    refine ⟨t2, ⟨strconv_ParseUint.fun_ ht2, trivial⟩, ?_⟩
    refine ⟨trivial, ?_⟩
    refine ⟨trivial, ?_⟩
    refine ⟨fun b3 => ?_, fun b3 => ?_⟩
    · rw [if_neg (not_not_intro (none_t (not_f b3)))] at h
      refine ⟨b3, ?_⟩
      refine ⟨trivial, ?_⟩
      refine ⟨b3, ?_⟩
      refine ⟨fun b4 => ?_, fun b4 => ?_⟩
      · rw [if_neg (of_decide_eq_false b4)] at h
        refine ⟨b4, ?_⟩
        obtain ⟨t5, ht5, h⟩ := of_bind h
        refine ⟨t5, ⟨sigset_Text.fun_ ht5, trivial⟩, ?_⟩
        refine ⟨b4, ?_⟩
        refine ⟨b4, ?_⟩
        refine ⟨trivial, ?_⟩
        refine ⟨b4, ?_⟩
        refine ⟨fun b6 => ?_, fun b6 => ?_⟩
        · rw [if_pos (str_f (not_t b6))] at h
          refine ⟨trivial, ?_⟩
          refine ⟨trivial, ?_⟩
          obtain rfl := Option.some.inj h
          exact ⟨trivial, trivial, rfl, rfl⟩
        · rw [if_neg (not_not_intro (str_t (not_f b6)))] at h
          refine ⟨trivial, ?_⟩
          refine ⟨trivial, ?_⟩
          refine ⟨trivial, ?_⟩
          obtain rfl := Option.some.inj h
          exact ⟨trivial, trivial, rfl, rfl⟩
      · rw [if_pos (of_decide_eq_true b4)] at h
        refine ⟨b4, ?_⟩
        refine ⟨b4, ?_⟩
        refine ⟨b4, ?_⟩
        refine ⟨b4, ?_⟩
        refine ⟨rfl, ?_⟩
        refine ⟨trivial, ?_⟩
        refine ⟨trivial, ?_⟩
        obtain rfl := Option.some.inj h
        exact ⟨trivial, trivial, rfl, rfl⟩
    · rw [if_pos (none_f (not_t b3))] at h
      refine ⟨b3, ?_⟩
      refine ⟨b3, ?_⟩
      refine ⟨rfl, ?_⟩
      refine ⟨rfl, ?_⟩
      refine ⟨rfl, ?_⟩
      refine ⟨rfl, ?_⟩
      refine ⟨rfl, ?_⟩
      refine ⟨rfl, ?_⟩
      refine ⟨trivial, ?_⟩
      refine ⟨trivial, ?_⟩
      obtain rfl := Option.some.inj h
      exact ⟨trivial, trivial, rfl, rfl⟩
/-! math/bits.OnesCount32 -/
def math_bits_OnesCount32.f (a0 : Int) : Option Int :=
  if 0 ≤ (shr .u32 a0 (24 : Int)) ∧ (shr .u32 a0 (24 : Int)) < (((ByteArray.size (⟨#[0, 1, 1, 2, 1, 2, 2, 3, 1, 2, 2, 3, 2, 3, 3, 4, 1, 2, 2, 3, 2, 3, 3, 4, 2, 3, 3, 4, 3, 4, 4, 5, 1, 2, 2, 3, 2, 3, 3, 4, 2, 3, 3, 4, 3, 4, 4, 5, 2, 3, 3, 4, 3, 4, 4, 5, 3, 4, 4, 5, 4, 5, 5, 6, 1, 2, 2, 3, 2, 3, 3, 4, 2, 3, 3, 4, 3, 4, 4, 5, 2, 3, 3, 4, 3, 4, 4, 5, 3, 4, 4, 5, 4, 5, 5, 6, 2, 3, 3, 4, 3, 4, 4, 5, 3, 4, 4, 5, 4, 5, 5, 6, 3, 4, 4, 5, 4, 5, 5, 6, 4, 5, 5, 6, 5, 6, 6, 7, 1, 2, 2, 3, 2, 3, 3, 4, 2, 3, 3, 4, 3, 4, 4, 5, 2, 3, 3, 4, 3, 4, 4, 5, 3, 4, 4, 5, 4, 5, 5, 6, 2, 3, 3, 4, 3, 4, 4, 5, 3, 4, 4, 5, 4, 5, 5, 6, 3, 4, 4, 5, 4, 5, 5, 6, 4, 5, 5, 6, 5, 6, 6, 7, 2, 3, 3, 4, 3, 4, 4, 5, 3, 4, 4, 5, 4, 5, 5, 6, 3, 4, 4, 5, 4, 5, 5, 6, 4, 5, 5, 6, 5, 6, 6, 7, 3, 4, 4, 5, 4, 5, 5, 6, 4, 5, 5, 6, 5, 6, 6, 7, 4, 5, 5, 6, 5, 6, 6, 7, 5, 6, 6, 7, 6, 7, 7, 8]⟩ : ByteArray)) : Nat) : Int) then
    if 0 ≤ (bits .and .u32 (shr .u32 a0 (16 : Int)) (255 : Int)) ∧ (bits .and .u32 (shr .u32 a0 (16 : Int)) (255 : Int)) < (((ByteArray.size (⟨#[0, 1, 1, 2, 1, 2, 2, 3, 1, 2, 2, 3, 2, 3, 3, 4, 1, 2, 2, 3, 2, 3, 3, 4, 2, 3, 3, 4, 3, 4, 4, 5, 1, 2, 2, 3, 2, 3, 3, 4, 2, 3, 3, 4, 3, 4, 4, 5, 2, 3, 3, 4, 3, 4, 4, 5, 3, 4, 4, 5, 4, 5, 5, 6, 1, 2, 2, 3, 2, 3, 3, 4, 2, 3, 3, 4, 3, 4, 4, 5, 2, 3, 3, 4, 3, 4, 4, 5, 3, 4, 4, 5, 4, 5, 5, 6, 2, 3, 3, 4, 3, 4, 4, 5, 3, 4, 4, 5, 4, 5, 5, 6, 3, 4, 4, 5, 4, 5, 5, 6, 4, 5, 5, 6, 5, 6, 6, 7, 1, 2, 2, 3, 2, 3, 3, 4, 2, 3, 3, 4, 3, 4, 4, 5, 2, 3, 3, 4, 3, 4, 4, 5, 3, 4, 4, 5, 4, 5, 5, 6, 2, 3, 3, 4, 3, 4, 4, 5, 3, 4, 4, 5, 4, 5, 5, 6, 3, 4, 4, 5, 4, 5, 5, 6, 4, 5, 5, 6, 5, 6, 6, 7, 2, 3, 3, 4, 3, 4, 4, 5, 3, 4, 4, 5, 4, 5, 5, 6, 3, 4, 4, 5, 4, 5, 5, 6, 4, 5, 5, 6, 5, 6, 6, 7, 3, 4, 4, 5, 4, 5, 5, 6, 4, 5, 5, 6, 5, 6, 6, 7, 4, 5, 5, 6, 5, 6, 6, 7, 5, 6, 6, 7, 6, 7, 7, 8]⟩ : ByteArray)) : Nat) : Int) then
      if 0 ≤ (bits .and .u32 (shr .u32 a0 (8 : Int)) (255 : Int)) ∧ (bits .and .u32 (shr .u32 a0 (8 : Int)) (255 : Int)) < (((ByteArray.size (⟨#[0, 1, 1, 2, 1, 2, 2, 3, 1, 2, 2, 3, 2, 3, 3, 4, 1, 2, 2, 3, 2, 3, 3, 4, 2, 3, 3, 4, 3, 4, 4, 5, 1, 2, 2, 3, 2, 3, 3, 4, 2, 3, 3, 4, 3, 4, 4, 5, 2, 3, 3, 4, 3, 4, 4, 5, 3, 4, 4, 5, 4, 5, 5, 6, 1, 2, 2, 3, 2, 3, 3, 4, 2, 3, 3, 4, 3, 4, 4, 5, 2, 3, 3, 4, 3, 4, 4, 5, 3, 4, 4, 5, 4, 5, 5, 6, 2, 3, 3, 4, 3, 4, 4, 5, 3, 4, 4, 5, 4, 5, 5, 6, 3, 4, 4, 5, 4, 5, 5, 6, 4, 5, 5, 6, 5, 6, 6, 7, 1, 2, 2, 3, 2, 3, 3, 4, 2, 3, 3, 4, 3, 4, 4, 5, 2, 3, 3, 4, 3, 4, 4, 5, 3, 4, 4, 5, 4, 5, 5, 6, 2, 3, 3, 4, 3, 4, 4, 5, 3, 4, 4, 5, 4, 5, 5, 6, 3, 4, 4, 5, 4, 5, 5, 6, 4, 5, 5, 6, 5, 6, 6, 7, 2, 3, 3, 4, 3, 4, 4, 5, 3, 4, 4, 5, 4, 5, 5, 6, 3, 4, 4, 5, 4, 5, 5, 6, 4, 5, 5, 6, 5, 6, 6, 7, 3, 4, 4, 5, 4, 5, 5, 6, 4, 5, 5, 6, 5, 6, 6, 7, 4, 5, 5, 6, 5, 6, 6, 7, 5, 6, 6, 7, 6, 7, 7, 8]⟩ : ByteArray)) : Nat) : Int) then
        if 0 ≤ (bits .and .u32 a0 (255 : Int)) ∧ (bits .and .u32 a0 (255 : Int)) < (((ByteArray.size (⟨#[0, 1, 1, 2, 1, 2, 2, 3, 1, 2, 2, 3, 2, 3, 3, 4, 1, 2, 2, 3, 2, 3, 3, 4, 2, 3, 3, 4, 3, 4, 4, 5, 1, 2, 2, 3, 2, 3, 3, 4, 2, 3, 3, 4, 3, 4, 4, 5, 2, 3, 3, 4, 3, 4, 4, 5, 3, 4, 4, 5, 4, 5, 5, 6, 1, 2, 2, 3, 2, 3, 3, 4, 2, 3, 3, 4, 3, 4, 4, 5, 2, 3, 3, 4, 3, 4, 4, 5, 3, 4, 4, 5, 4, 5, 5, 6, 2, 3, 3, 4, 3, 4, 4, 5, 3, 4, 4, 5, 4, 5, 5, 6, 3, 4, 4, 5, 4, 5, 5, 6, 4, 5, 5, 6, 5, 6, 6, 7, 1, 2, 2, 3, 2, 3, 3, 4, 2, 3, 3, 4, 3, 4, 4, 5, 2, 3, 3, 4, 3, 4, 4, 5, 3, 4, 4, 5, 4, 5, 5, 6, 2, 3, 3, 4, 3, 4, 4, 5, 3, 4, 4, 5, 4, 5, 5, 6, 3, 4, 4, 5, 4, 5, 5, 6, 4, 5, 5, 6, 5, 6, 6, 7, 2, 3, 3, 4, 3, 4, 4, 5, 3, 4, 4, 5, 4, 5, 5, 6, 3, 4, 4, 5, 4, 5, 5, 6, 4, 5, 5, 6, 5, 6, 6, 7, 3, 4, 4, 5, 4, 5, 5, 6, 4, 5, 5, 6, 5, 6, 6, 7, 4, 5, 5, 6, 5, 6, 6, 7, 5, 6, 6, 7, 6, 7, 7, 8]⟩ : ByteArray)) : Nat) : Int) then
          some (IntKind.wrap .i64 ((IntKind.wrap .u8 ((IntKind.wrap .u8 ((IntKind.wrap .u8 ((bt (⟨#[0, 1, 1, 2, 1, 2, 2, 3, 1, 2, 2, 3, 2, 3, 3, 4, 1, 2, 2, 3, 2, 3, 3, 4, 2, 3, 3, 4, 3, 4, 4, 5, 1, 2, 2, 3, 2, 3, 3, 4, 2, 3, 3, 4, 3, 4, 4, 5, 2, 3, 3, 4, 3, 4, 4, 5, 3, 4, 4, 5, 4, 5, 5, 6, 1, 2, 2, 3, 2, 3, 3, 4, 2, 3, 3, 4, 3, 4, 4, 5, 2, 3, 3, 4, 3, 4, 4, 5, 3, 4, 4, 5, 4, 5, 5, 6, 2, 3, 3, 4, 3, 4, 4, 5, 3, 4, 4, 5, 4, 5, 5, 6, 3, 4, 4, 5, 4, 5, 5, 6, 4, 5, 5, 6, 5, 6, 6, 7, 1, 2, 2, 3, 2, 3, 3, 4, 2, 3, 3, 4, 3, 4, 4, 5, 2, 3, 3, 4, 3, 4, 4, 5, 3, 4, 4, 5, 4, 5, 5, 6, 2, 3, 3, 4, 3, 4, 4, 5, 3, 4, 4, 5, 4, 5, 5, 6, 3, 4, 4, 5, 4, 5, 5, 6, 4, 5, 5, 6, 5, 6, 6, 7, 2, 3, 3, 4, 3, 4, 4, 5, 3, 4, 4, 5, 4, 5, 5, 6, 3, 4, 4, 5, 4, 5, 5, 6, 4, 5, 5, 6, 5, 6, 6, 7, 3, 4, 4, 5, 4, 5, 5, 6, 4, 5, 5, 6, 5, 6, 6, 7, 4, 5, 5, 6, 5, 6, 6, 7, 5, 6, 6, 7, 6, 7, 7, 8]⟩ : ByteArray) (shr .u32 a0 (24 : Int))) + (bt (⟨#[0, 1, 1, 2, 1, 2, 2, 3, 1, 2, 2, 3, 2, 3, 3, 4, 1, 2, 2, 3, 2, 3, 3, 4, 2, 3, 3, 4, 3, 4, 4, 5, 1, 2, 2, 3, 2, 3, 3, 4, 2, 3, 3, 4, 3, 4, 4, 5, 2, 3, 3, 4, 3, 4, 4, 5, 3, 4, 4, 5, 4, 5, 5, 6, 1, 2, 2, 3, 2, 3, 3, 4, 2, 3, 3, 4, 3, 4, 4, 5, 2, 3, 3, 4, 3, 4, 4, 5, 3, 4, 4, 5, 4, 5, 5, 6, 2, 3, 3, 4, 3, 4, 4, 5, 3, 4, 4, 5, 4, 5, 5, 6, 3, 4, 4, 5, 4, 5, 5, 6, 4, 5, 5, 6, 5, 6, 6, 7, 1, 2, 2, 3, 2, 3, 3, 4, 2, 3, 3, 4, 3, 4, 4, 5, 2, 3, 3, 4, 3, 4, 4, 5, 3, 4, 4, 5, 4, 5, 5, 6, 2, 3, 3, 4, 3, 4, 4, 5, 3, 4, 4, 5, 4, 5, 5, 6, 3, 4, 4, 5, 4, 5, 5, 6, 4, 5, 5, 6, 5, 6, 6, 7, 2, 3, 3, 4, 3, 4, 4, 5, 3, 4, 4, 5, 4, 5, 5, 6, 3, 4, 4, 5, 4, 5, 5, 6, 4, 5, 5, 6, 5, 6, 6, 7, 3, 4, 4, 5, 4, 5, 5, 6, 4, 5, 5, 6, 5, 6, 6, 7, 4, 5, 5, 6, 5, 6, 6, 7, 5, 6, 6, 7, 6, 7, 7, 8]⟩ : ByteArray) (bits .and .u32 (shr .u32 a0 (16 : Int)) (255 : Int))))) + (bt (⟨#[0, 1, 1, 2, 1, 2, 2, 3, 1, 2, 2, 3, 2, 3, 3, 4, 1, 2, 2, 3, 2, 3, 3, 4, 2, 3, 3, 4, 3, 4, 4, 5, 1, 2, 2, 3, 2, 3, 3, 4, 2, 3, 3, 4, 3, 4, 4, 5, 2, 3, 3, 4, 3, 4, 4, 5, 3, 4, 4, 5, 4, 5, 5, 6, 1, 2, 2, 3, 2, 3, 3, 4, 2, 3, 3, 4, 3, 4, 4, 5, 2, 3, 3, 4, 3, 4, 4, 5, 3, 4, 4, 5, 4, 5, 5, 6, 2, 3, 3, 4, 3, 4, 4, 5, 3, 4, 4, 5, 4, 5, 5, 6, 3, 4, 4, 5, 4, 5, 5, 6, 4, 5, 5, 6, 5, 6, 6, 7, 1, 2, 2, 3, 2, 3, 3, 4, 2, 3, 3, 4, 3, 4, 4, 5, 2, 3, 3, 4, 3, 4, 4, 5, 3, 4, 4, 5, 4, 5, 5, 6, 2, 3, 3, 4, 3, 4, 4, 5, 3, 4, 4, 5, 4, 5, 5, 6, 3, 4, 4, 5, 4, 5, 5, 6, 4, 5, 5, 6, 5, 6, 6, 7, 2, 3, 3, 4, 3, 4, 4, 5, 3, 4, 4, 5, 4, 5, 5, 6, 3, 4, 4, 5, 4, 5, 5, 6, 4, 5, 5, 6, 5, 6, 6, 7, 3, 4, 4, 5, 4, 5, 5, 6, 4, 5, 5, 6, 5, 6, 6, 7, 4, 5, 5, 6, 5, 6, 6, 7, 5, 6, 6, 7, 6, 7, 7, 8]⟩ : ByteArray) (bits .and .u32 (shr .u32 a0 (8 : Int)) (255 : Int))))) + (bt (⟨#[0, 1, 1, 2, 1, 2, 2, 3, 1, 2, 2, 3, 2, 3, 3, 4, 1, 2, 2, 3, 2, 3, 3, 4, 2, 3, 3, 4, 3, 4, 4, 5, 1, 2, 2, 3, 2, 3, 3, 4, 2, 3, 3, 4, 3, 4, 4, 5, 2, 3, 3, 4, 3, 4, 4, 5, 3, 4, 4, 5, 4, 5, 5, 6, 1, 2, 2, 3, 2, 3, 3, 4, 2, 3, 3, 4, 3, 4, 4, 5, 2, 3, 3, 4, 3, 4, 4, 5, 3, 4, 4, 5, 4, 5, 5, 6, 2, 3, 3, 4, 3, 4, 4, 5, 3, 4, 4, 5, 4, 5, 5, 6, 3, 4, 4, 5, 4, 5, 5, 6, 4, 5, 5, 6, 5, 6, 6, 7, 1, 2, 2, 3, 2, 3, 3, 4, 2, 3, 3, 4, 3, 4, 4, 5, 2, 3, 3, 4, 3, 4, 4, 5, 3, 4, 4, 5, 4, 5, 5, 6, 2, 3, 3, 4, 3, 4, 4, 5, 3, 4, 4, 5, 4, 5, 5, 6, 3, 4, 4, 5, 4, 5, 5, 6, 4, 5, 5, 6, 5, 6, 6, 7, 2, 3, 3, 4, 3, 4, 4, 5, 3, 4, 4, 5, 4, 5, 5, 6, 3, 4, 4, 5, 4, 5, 5, 6, 4, 5, 5, 6, 5, 6, 6, 7, 3, 4, 4, 5, 4, 5, 5, 6, 4, 5, 5, 6, 5, 6, 6, 7, 4, 5, 5, 6, 5, 6, 6, 7, 5, 6, 6, 7, 6, 7, 7, 8]⟩ : ByteArray) (bits .and .u32 a0 (255 : Int)))))))
        else none
      else none
    else none
  else none
def math_bits_OnesCount32.R (r : Int) : Tm := .v (.one (.sc (.int .i64 r)))
theorem math_bits_OnesCount32.fun_ {a0 : Int} {r : Int} (h : math_bits_OnesCount32.f a0 = some r) : Fun cfg 26 [.one (.sc (.int .u32 a0))] [] (math_bits_OnesCount32.R r) [] := by
  unfold math_bits_OnesCount32.f at h
  refine fun_of_run cfg_ok (f := 26) (fn := Tryd.f26) Tryd.func26 rfl (by kernel_rfl) (rs := [.tmp 2]) rfl (nt := 21) rfl (l := fin) (k := (.dr [(0, dN), (1, dN), (2, dN), (3, dN), (4, dN), (5, dN), (6, dN), (7, dN), (8, dN), (9, dN), (10, dN), (11, dN), (12, dN), (13, dN), (14, dN), (15, dN), (16, dN), (17, dN), (18, dN)] (.adj [] (.adj [] .nil)))) (to_goal (q := (0 ≤ (24 : Int)) ∧ (0 ≤ (shr .u32 a0 (24 : Int)) ∧ (shr .u32 a0 (24 : Int)) < (((ByteArray.size (⟨#[0, 1, 1, 2, 1, 2, 2, 3, 1, 2, 2, 3, 2, 3, 3, 4, 1, 2, 2, 3, 2, 3, 3, 4, 2, 3, 3, 4, 3, 4, 4, 5, 1, 2, 2, 3, 2, 3, 3, 4, 2, 3, 3, 4, 3, 4, 4, 5, 2, 3, 3, 4, 3, 4, 4, 5, 3, 4, 4, 5, 4, 5, 5, 6, 1, 2, 2, 3, 2, 3, 3, 4, 2, 3, 3, 4, 3, 4, 4, 5, 2, 3, 3, 4, 3, 4, 4, 5, 3, 4, 4, 5, 4, 5, 5, 6, 2, 3, 3, 4, 3, 4, 4, 5, 3, 4, 4, 5, 4, 5, 5, 6, 3, 4, 4, 5, 4, 5, 5, 6, 4, 5, 5, 6, 5, 6, 6, 7, 1, 2, 2, 3, 2, 3, 3, 4, 2, 3, 3, 4, 3, 4, 4, 5, 2, 3, 3, 4, 3, 4, 4, 5, 3, 4, 4, 5, 4, 5, 5, 6, 2, 3, 3, 4, 3, 4, 4, 5, 3, 4, 4, 5, 4, 5, 5, 6, 3, 4, 4, 5, 4, 5, 5, 6, 4, 5, 5, 6, 5, 6, 6, 7, 2, 3, 3, 4, 3, 4, 4, 5, 3, 4, 4, 5, 4, 5, 5, 6, 3, 4, 4, 5, 4, 5, 5, 6, 4, 5, 5, 6, 5, 6, 6, 7, 3, 4, 4, 5, 4, 5, 5, 6, 4, 5, 5, 6, 5, 6, 6, 7, 4, 5, 5, 6, 5, 6, 6, 7, 5, 6, 6, 7, 6, 7, 7, 8]⟩ : ByteArray)) : Nat) : Int)) ∧ (0 ≤ (16 : Int)) ∧ (True) ∧ (0 ≤ (bits .and .u32 (shr .u32 a0 (16 : Int)) (255 : Int)) ∧ (bits .and .u32 (shr .u32 a0 (16 : Int)) (255 : Int)) < (((ByteArray.size (⟨#[0, 1, 1, 2, 1, 2, 2, 3, 1, 2, 2, 3, 2, 3, 3, 4, 1, 2, 2, 3, 2, 3, 3, 4, 2, 3, 3, 4, 3, 4, 4, 5, 1, 2, 2, 3, 2, 3, 3, 4, 2, 3, 3, 4, 3, 4, 4, 5, 2, 3, 3, 4, 3, 4, 4, 5, 3, 4, 4, 5, 4, 5, 5, 6, 1, 2, 2, 3, 2, 3, 3, 4, 2, 3, 3, 4, 3, 4, 4, 5, 2, 3, 3, 4, 3, 4, 4, 5, 3, 4, 4, 5, 4, 5, 5, 6, 2, 3, 3, 4, 3, 4, 4, 5, 3, 4, 4, 5, 4, 5, 5, 6, 3, 4, 4, 5, 4, 5, 5, 6, 4, 5, 5, 6, 5, 6, 6, 7, 1, 2, 2, 3, 2, 3, 3, 4, 2, 3, 3, 4, 3, 4, 4, 5, 2, 3, 3, 4, 3, 4, 4, 5, 3, 4, 4, 5, 4, 5, 5, 6, 2, 3, 3, 4, 3, 4, 4, 5, 3, 4, 4, 5, 4, 5, 5, 6, 3, 4, 4, 5, 4, 5, 5, 6, 4, 5, 5, 6, 5, 6, 6, 7, 2, 3, 3, 4, 3, 4, 4, 5, 3, 4, 4, 5, 4, 5, 5, 6, 3, 4, 4, 5, 4, 5, 5, 6, 4, 5, 5, 6, 5, 6, 6, 7, 3, 4, 4, 5, 4, 5, 5, 6, 4, 5, 5, 6, 5, 6, 6, 7, 4, 5, 5, 6, 5, 6, 6, 7, 5, 6, 6, 7, 6, 7, 7, 8]⟩ : ByteArray)) : Nat) : Int)) ∧ (True) ∧ (0 ≤ (8 : Int)) ∧ (True) ∧ (0 ≤ (bits .and .u32 (shr .u32 a0 (8 : Int)) (255 : Int)) ∧ (bits .and .u32 (shr .u32 a0 (8 : Int)) (255 : Int)) < (((ByteArray.size (⟨#[0, 1, 1, 2, 1, 2, 2, 3, 1, 2, 2, 3, 2, 3, 3, 4, 1, 2, 2, 3, 2, 3, 3, 4, 2, 3, 3, 4, 3, 4, 4, 5, 1, 2, 2, 3, 2, 3, 3, 4, 2, 3, 3, 4, 3, 4, 4, 5, 2, 3, 3, 4, 3, 4, 4, 5, 3, 4, 4, 5, 4, 5, 5, 6, 1, 2, 2, 3, 2, 3, 3, 4, 2, 3, 3, 4, 3, 4, 4, 5, 2, 3, 3, 4, 3, 4, 4, 5, 3, 4, 4, 5, 4, 5, 5, 6, 2, 3, 3, 4, 3, 4, 4, 5, 3, 4, 4, 5, 4, 5, 5, 6, 3, 4, 4, 5, 4, 5, 5, 6, 4, 5, 5, 6, 5, 6, 6, 7, 1, 2, 2, 3, 2, 3, 3, 4, 2, 3, 3, 4, 3, 4, 4, 5, 2, 3, 3, 4, 3, 4, 4, 5, 3, 4, 4, 5, 4, 5, 5, 6, 2, 3, 3, 4, 3, 4, 4, 5, 3, 4, 4, 5, 4, 5, 5, 6, 3, 4, 4, 5, 4, 5, 5, 6, 4, 5, 5, 6, 5, 6, 6, 7, 2, 3, 3, 4, 3, 4, 4, 5, 3, 4, 4, 5, 4, 5, 5, 6, 3, 4, 4, 5, 4, 5, 5, 6, 4, 5, 5, 6, 5, 6, 6, 7, 3, 4, 4, 5, 4, 5, 5, 6, 4, 5, 5, 6, 5, 6, 6, 7, 4, 5, 5, 6, 5, 6, 6, 7, 5, 6, 6, 7, 6, 7, 7, 8]⟩ : ByteArray)) : Nat) : Int)) ∧ (True) ∧ (True) ∧ (0 ≤ (bits .and .u32 a0 (255 : Int)) ∧ (bits .and .u32 a0 (255 : Int)) < (((ByteArray.size (⟨#[0, 1, 1, 2, 1, 2, 2, 3, 1, 2, 2, 3, 2, 3, 3, 4, 1, 2, 2, 3, 2, 3, 3, 4, 2, 3, 3, 4, 3, 4, 4, 5, 1, 2, 2, 3, 2, 3, 3, 4, 2, 3, 3, 4, 3, 4, 4, 5, 2, 3, 3, 4, 3, 4, 4, 5, 3, 4, 4, 5, 4, 5, 5, 6, 1, 2, 2, 3, 2, 3, 3, 4, 2, 3, 3, 4, 3, 4, 4, 5, 2, 3, 3, 4, 3, 4, 4, 5, 3, 4, 4, 5, 4, 5, 5, 6, 2, 3, 3, 4, 3, 4, 4, 5, 3, 4, 4, 5, 4, 5, 5, 6, 3, 4, 4, 5, 4, 5, 5, 6, 4, 5, 5, 6, 5, 6, 6, 7, 1, 2, 2, 3, 2, 3, 3, 4, 2, 3, 3, 4, 3, 4, 4, 5, 2, 3, 3, 4, 3, 4, 4, 5, 3, 4, 4, 5, 4, 5, 5, 6, 2, 3, 3, 4, 3, 4, 4, 5, 3, 4, 4, 5, 4, 5, 5, 6, 3, 4, 4, 5, 4, 5, 5, 6, 4, 5, 5, 6, 5, 6, 6, 7, 2, 3, 3, 4, 3, 4, 4, 5, 3, 4, 4, 5, 4, 5, 5, 6, 3, 4, 4, 5, 4, 5, 5, 6, 4, 5, 5, 6, 5, 6, 6, 7, 3, 4, 4, 5, 4, 5, 5, 6, 4, 5, 5, 6, 5, 6, 6, 7, 4, 5, 5, 6, 5, 6, 6, 7, 5, 6, 6, 7, 6, 7, 7, 8]⟩ : ByteArray)) : Nat) : Int)) ∧ (True) ∧ (True) ∧ (True ∧ ((True) ∧ (True) ∧ (.v (.one (.sc (.int .i64 (IntKind.wrap .i64 ((IntKind.wrap .u8 ((IntKind.wrap .u8 ((IntKind.wrap .u8 ((bt (⟨#[0, 1, 1, 2, 1, 2, 2, 3, 1, 2, 2, 3, 2, 3, 3, 4, 1, 2, 2, 3, 2, 3, 3, 4, 2, 3, 3, 4, 3, 4, 4, 5, 1, 2, 2, 3, 2, 3, 3, 4, 2, 3, 3, 4, 3, 4, 4, 5, 2, 3, 3, 4, 3, 4, 4, 5, 3, 4, 4, 5, 4, 5, 5, 6, 1, 2, 2, 3, 2, 3, 3, 4, 2, 3, 3, 4, 3, 4, 4, 5, 2, 3, 3, 4, 3, 4, 4, 5, 3, 4, 4, 5, 4, 5, 5, 6, 2, 3, 3, 4, 3, 4, 4, 5, 3, 4, 4, 5, 4, 5, 5, 6, 3, 4, 4, 5, 4, 5, 5, 6, 4, 5, 5, 6, 5, 6, 6, 7, 1, 2, 2, 3, 2, 3, 3, 4, 2, 3, 3, 4, 3, 4, 4, 5, 2, 3, 3, 4, 3, 4, 4, 5, 3, 4, 4, 5, 4, 5, 5, 6, 2, 3, 3, 4, 3, 4, 4, 5, 3, 4, 4, 5, 4, 5, 5, 6, 3, 4, 4, 5, 4, 5, 5, 6, 4, 5, 5, 6, 5, 6, 6, 7, 2, 3, 3, 4, 3, 4, 4, 5, 3, 4, 4, 5, 4, 5, 5, 6, 3, 4, 4, 5, 4, 5, 5, 6, 4, 5, 5, 6, 5, 6, 6, 7, 3, 4, 4, 5, 4, 5, 5, 6, 4, 5, 5, 6, 5, 6, 6, 7, 4, 5, 5, 6, 5, 6, 6, 7, 5, 6, 6, 7, 6, 7, 7, 8]⟩ : ByteArray) (shr .u32 a0 (24 : Int))) + (bt (⟨#[0, 1, 1, 2, 1, 2, 2, 3, 1, 2, 2, 3, 2, 3, 3, 4, 1, 2, 2, 3, 2, 3, 3, 4, 2, 3, 3, 4, 3, 4, 4, 5, 1, 2, 2, 3, 2, 3, 3, 4, 2, 3, 3, 4, 3, 4, 4, 5, 2, 3, 3, 4, 3, 4, 4, 5, 3, 4, 4, 5, 4, 5, 5, 6, 1, 2, 2, 3, 2, 3, 3, 4, 2, 3, 3, 4, 3, 4, 4, 5, 2, 3, 3, 4, 3, 4, 4, 5, 3, 4, 4, 5, 4, 5, 5, 6, 2, 3, 3, 4, 3, 4, 4, 5, 3, 4, 4, 5, 4, 5, 5, 6, 3, 4, 4, 5, 4, 5, 5, 6, 4, 5, 5, 6, 5, 6, 6, 7, 1, 2, 2, 3, 2, 3, 3, 4, 2, 3, 3, 4, 3, 4, 4, 5, 2, 3, 3, 4, 3, 4, 4, 5, 3, 4, 4, 5, 4, 5, 5, 6, 2, 3, 3, 4, 3, 4, 4, 5, 3, 4, 4, 5, 4, 5, 5, 6, 3, 4, 4, 5, 4, 5, 5, 6, 4, 5, 5, 6, 5, 6, 6, 7, 2, 3, 3, 4, 3, 4, 4, 5, 3, 4, 4, 5, 4, 5, 5, 6, 3, 4, 4, 5, 4, 5, 5, 6, 4, 5, 5, 6, 5, 6, 6, 7, 3, 4, 4, 5, 4, 5, 5, 6, 4, 5, 5, 6, 5, 6, 6, 7, 4, 5, 5, 6, 5, 6, 6, 7, 5, 6, 6, 7, 6, 7, 7, 8]⟩ : ByteArray) (bits .and .u32 (shr .u32 a0 (16 : Int)) (255 : Int))))) + (bt (⟨#[0, 1, 1, 2, 1, 2, 2, 3, 1, 2, 2, 3, 2, 3, 3, 4, 1, 2, 2, 3, 2, 3, 3, 4, 2, 3, 3, 4, 3, 4, 4, 5, 1, 2, 2, 3, 2, 3, 3, 4, 2, 3, 3, 4, 3, 4, 4, 5, 2, 3, 3, 4, 3, 4, 4, 5, 3, 4, 4, 5, 4, 5, 5, 6, 1, 2, 2, 3, 2, 3, 3, 4, 2, 3, 3, 4, 3, 4, 4, 5, 2, 3, 3, 4, 3, 4, 4, 5, 3, 4, 4, 5, 4, 5, 5, 6, 2, 3, 3, 4, 3, 4, 4, 5, 3, 4, 4, 5, 4, 5, 5, 6, 3, 4, 4, 5, 4, 5, 5, 6, 4, 5, 5, 6, 5, 6, 6, 7, 1, 2, 2, 3, 2, 3, 3, 4, 2, 3, 3, 4, 3, 4, 4, 5, 2, 3, 3, 4, 3, 4, 4, 5, 3, 4, 4, 5, 4, 5, 5, 6, 2, 3, 3, 4, 3, 4, 4, 5, 3, 4, 4, 5, 4, 5, 5, 6, 3, 4, 4, 5, 4, 5, 5, 6, 4, 5, 5, 6, 5, 6, 6, 7, 2, 3, 3, 4, 3, 4, 4, 5, 3, 4, 4, 5, 4, 5, 5, 6, 3, 4, 4, 5, 4, 5, 5, 6, 4, 5, 5, 6, 5, 6, 6, 7, 3, 4, 4, 5, 4, 5, 5, 6, 4, 5, 5, 6, 5, 6, 6, 7, 4, 5, 5, 6, 5, 6, 6, 7, 5, 6, 6, 7, 6, 7, 7, 8]⟩ : ByteArray) (bits .and .u32 (shr .u32 a0 (8 : Int)) (255 : Int))))) + (bt (⟨#[0, 1, 1, 2, 1, 2, 2, 3, 1, 2, 2, 3, 2, 3, 3, 4, 1, 2, 2, 3, 2, 3, 3, 4, 2, 3, 3, 4, 3, 4, 4, 5, 1, 2, 2, 3, 2, 3, 3, 4, 2, 3, 3, 4, 3, 4, 4, 5, 2, 3, 3, 4, 3, 4, 4, 5, 3, 4, 4, 5, 4, 5, 5, 6, 1, 2, 2, 3, 2, 3, 3, 4, 2, 3, 3, 4, 3, 4, 4, 5, 2, 3, 3, 4, 3, 4, 4, 5, 3, 4, 4, 5, 4, 5, 5, 6, 2, 3, 3, 4, 3, 4, 4, 5, 3, 4, 4, 5, 4, 5, 5, 6, 3, 4, 4, 5, 4, 5, 5, 6, 4, 5, 5, 6, 5, 6, 6, 7, 1, 2, 2, 3, 2, 3, 3, 4, 2, 3, 3, 4, 3, 4, 4, 5, 2, 3, 3, 4, 3, 4, 4, 5, 3, 4, 4, 5, 4, 5, 5, 6, 2, 3, 3, 4, 3, 4, 4, 5, 3, 4, 4, 5, 4, 5, 5, 6, 3, 4, 4, 5, 4, 5, 5, 6, 4, 5, 5, 6, 5, 6, 6, 7, 2, 3, 3, 4, 3, 4, 4, 5, 3, 4, 4, 5, 4, 5, 5, 6, 3, 4, 4, 5, 4, 5, 5, 6, 4, 5, 5, 6, 5, 6, 6, 7, 3, 4, 4, 5, 4, 5, 5, 6, 4, 5, 5, 6, 5, 6, 6, 7, 4, 5, 5, 6, 5, 6, 6, 7, 5, 6, 6, 7, 6, 7, 7, 8]⟩ : ByteArray) (bits .and .u32 a0 (255 : Int)))))))))) : Tm) = math_bits_OnesCount32.R r ∧ ([] : List Box) = []))) (by kernel_rfl) ?_)
  obtain ⟨g1, h⟩ := of_guard h
  obtain ⟨g2, h⟩ := of_guard h
  obtain ⟨g3, h⟩ := of_guard h
  obtain ⟨g4, h⟩ := of_guard h
  refine ⟨(by decide), g1, (by decide), trivial, g2, trivial, (by decide), trivial, g3, trivial, trivial, g4, trivial, trivial, ?_⟩
  refine ⟨trivial, ?_⟩
  obtain rfl := Option.some.inj h
  exact ⟨trivial, trivial, rfl, rfl⟩
/-! halter/sigset.Count -/
def sigset_Count.f (a0 : Int) : Option Int :=
  (math_bits_OnesCount32.f (bits .and .u32 a0 (2147483647 : Int))).bind fun t1 =>
  some t1
def sigset_Count.R (r : Int) : Tm := .v (.one (.sc (.int .i64 r)))
theorem sigset_Count.fun_ {a0 : Int} {r : Int} (h : sigset_Count.f a0 = some r) : Fun cfg 18 [.one (.sc (.int .u32 a0))] [] (sigset_Count.R r) [] := by
  unfold sigset_Count.f at h
  refine fun_of_run cfg_ok (f := 18) (fn := Tryd.f18) Tryd.func18 rfl (by kernel_rfl) (rs := [.tmp 2]) rfl (nt := 6) rfl (l := fin) (k := (.call true [] (Int) (fun t1 => math_bits_OnesCount32.R t1) (fun t1 => (.adj [] (.adj [] .nil))))) (to_goal (q := (True) ∧ (∃ t1 : Int, (Fun cfg 26 [.one (.sc (.int .u32 (bits .and .u32 a0 (2147483647 : Int))))] [] (math_bits_OnesCount32.R t1) [] ∧ True) ∧ (True ∧ ((True) ∧ (True) ∧ (.v (.one (.sc (.int .i64 t1))) : Tm) = sigset_Count.R r ∧ ([] : List Box) = [])))) (by kernel_rfl) ?_)
  refine ⟨trivial, ?_⟩
  obtain ⟨t1, ht1, h⟩ := of_bind h
  refine ⟨t1, ⟨math_bits_OnesCount32.fun_ ht1, trivial⟩, ?_⟩
  refine ⟨trivial, ?_⟩
  obtain rfl := Option.some.inj h
  exact ⟨trivial, trivial, rfl, rfl⟩
/-! math/bits.TrailingZeros32 -/
def math_bits_TrailingZeros32.f (a0 : Int) : Option Int :=
  if a0 = (0 : Int) then
    some (32 : Int)
  else
    if 0 ≤ (shr .u32 (IntKind.wrap .u32 ((bits .and .u32 a0 (IntKind.wrap .u32 (0 - a0))) * (125613361 : Int))) (27 : Int)) ∧ (shr .u32 (IntKind.wrap .u32 ((bits .and .u32 a0 (IntKind.wrap .u32 (0 - a0))) * (125613361 : Int))) (27 : Int)) < ((32 : Nat) : Int) then
      some (IntKind.wrap .i64 ((List.getD tab0 (Int.toNat (shr .u32 (IntKind.wrap .u32 ((bits .and .u32 a0 (IntKind.wrap .u32 (0 - a0))) * (125613361 : Int))) (27 : Int))) (0 : Int))))
    else none
def math_bits_TrailingZeros32.R (r : Int) : Tm := .v (.one (.sc (.int .i64 r)))
theorem math_bits_TrailingZeros32.fun_ {a0 : Int} {r : Int} (h : math_bits_TrailingZeros32.f a0 = some r) : Fun cfg 27 [.one (.sc (.int .u32 a0))] [] (math_bits_TrailingZeros32.R r) [] := by
  unfold math_bits_TrailingZeros32.f at h
  refine fun_of_run cfg_ok (f := 27) (fn := Tryd.f27) Tryd.func27 rfl (by kernel_rfl) (rs := [.tmp 2]) rfl (nt := 14) rfl (l := fin) (k := (.br (.adj [] (.adj [] (.adj [] .nil))) (.adj [] (.adj [] (.adj [] (.adj [] .nil)))))) (to_goal (q := (True) ∧ (((a0 == (0 : Int)) = true → (True ∧ (True ∧ ((True) ∧ (True) ∧ (.v (.one (.sc (.int .i64 (32 : Int)))) : Tm) = math_bits_TrailingZeros32.R r ∧ ([] : List Box) = [])))) ∧ ((a0 == (0 : Int)) = false → (True ∧ (True ∧ (True) ∧ (True) ∧ (0 ≤ (27 : Int)) ∧ (0 ≤ (shr .u32 (IntKind.wrap .u32 ((bits .and .u32 a0 (IntKind.wrap .u32 (0 - a0))) * (125613361 : Int))) (27 : Int)) ∧ (shr .u32 (IntKind.wrap .u32 ((bits .and .u32 a0 (IntKind.wrap .u32 (0 - a0))) * (125613361 : Int))) (27 : Int)) < ((32 : Nat) : Int)) ∧ (True) ∧ (True) ∧ (True ∧ ((True) ∧ (True) ∧ (.v (.one (.sc (.int .i64 (IntKind.wrap .i64 ((List.getD tab0 (Int.toNat (shr .u32 (IntKind.wrap .u32 ((bits .and .u32 a0 (IntKind.wrap .u32 (0 - a0))) * (125613361 : Int))) (27 : Int))) (0 : Int))))))) : Tm) = math_bits_TrailingZeros32.R r ∧ ([] : List Box) = []))))))) (by kernel_rfl) ?_)
  refine ⟨trivial, ?_⟩
  refine ⟨fun b1 => ?_, fun b1 => ?_⟩
  · rw [if_pos (beq_t b1)] at h
    refine ⟨trivial, ?_⟩
    refine ⟨trivial, ?_⟩
    obtain rfl := Option.some.inj h
    exact ⟨trivial, trivial, rfl, rfl⟩
  · rw [if_neg (beq_f b1)] at h
    refine ⟨trivial, ?_⟩
    refine ⟨trivial, ?_⟩
    refine ⟨trivial, ?_⟩
    refine ⟨trivial, ?_⟩
    refine ⟨(by decide), ?_⟩
    obtain ⟨g2, h⟩ := of_guard h
    refine ⟨g2, ?_⟩
    refine ⟨trivial, ?_⟩
    refine ⟨trivial, ?_⟩
    refine ⟨trivial, ?_⟩
    obtain rfl := Option.some.inj h
    exact ⟨trivial, trivial, rfl, rfl⟩
/-! halter/sigset.First -/
def sigset_First.f (a0 : Int) : Option Int :=
  if (bits .and .u32 a0 (2147483647 : Int)) = (0 : Int) then
    some (0 : Int)
  else
    (math_bits_TrailingZeros32.f a0).bind fun t2 =>
    some (IntKind.wrap .i64 (t2 + (1 : Int)))
def sigset_First.R (r : Int) : Tm := .v (.one (.sc (.int .i64 r)))
theorem sigset_First.fun_ {a0 : Int} {r : Int} (h : sigset_First.f a0 = some r) : Fun cfg 19 [.one (.sc (.int .u32 a0))] [] (sigset_First.R r) [] := by
  unfold sigset_First.f at h
  refine fun_of_run cfg_ok (f := 19) (fn := Tryd.f19) Tryd.func19 rfl (by kernel_rfl) (rs := [.tmp 2]) rfl (nt := 9) rfl (l := fin) (k := (.br (.adj [] (.adj [] (.adj [] .nil))) (.call true [] (Int) (fun t2 => math_bits_TrailingZeros32.R t2) (fun t2 => (.adj [] (.adj [] .nil)))))) (to_goal (q := (True) ∧ (True) ∧ ((((bits .and .u32 a0 (2147483647 : Int)) == (0 : Int)) = true → (True ∧ (True ∧ ((True) ∧ (True) ∧ (.v (.one (.sc (.int .i64 (0 : Int)))) : Tm) = sigset_First.R r ∧ ([] : List Box) = [])))) ∧ (((bits .and .u32 a0 (2147483647 : Int)) == (0 : Int)) = false → (∃ t2 : Int, (Fun cfg 27 [.one (.sc (.int .u32 a0))] [] (math_bits_TrailingZeros32.R t2) [] ∧ True) ∧ (True) ∧ (True ∧ ((True) ∧ (True) ∧ (.v (.one (.sc (.int .i64 (IntKind.wrap .i64 (t2 + (1 : Int)))))) : Tm) = sigset_First.R r ∧ ([] : List Box) = [])))))) (by kernel_rfl) ?_)
  refine ⟨trivial, ?_⟩
  refine ⟨trivial, ?_⟩
  refine ⟨fun b1 => ?_, fun b1 => ?_⟩
  · rw [if_pos (beq_t b1)] at h
    refine ⟨trivial, ?_⟩
    refine ⟨trivial, ?_⟩
    obtain rfl := Option.some.inj h
    exact ⟨trivial, trivial, rfl, rfl⟩
  · rw [if_neg (beq_f b1)] at h
    obtain ⟨t2, ht2, h⟩ := of_bind h
    refine ⟨t2, ⟨math_bits_TrailingZeros32.fun_ ht2, trivial⟩, ?_⟩
    refine ⟨trivial, ?_⟩
    refine ⟨trivial, ?_⟩
    obtain rfl := Option.some.inj h
    exact ⟨trivial, trivial, rfl, rfl⟩
/-! halter/sigset.List -/
def sigset_List.l0 : Nat → (List Int) → Int → Option (List Int)
  | 0, _, _ => none
  | n + 1, x8, x9 =>
    if ¬ x9 = (0 : Int) then
      (sigset_First.f x9).bind fun t16 =>
      if (0 = 0 ∧ 1 = 1) ∧ 0 = 0 ∧ (List.length x8) = (List.length x8) ∧ (((List.length x8) + 1) * 8 ≤ 140737488355328 ∧ (List.length x8) + 1 ≤ 9223372036854775807) then
        sigset_List.l0 n (x8 ++ [t16]) (bits .and .u32 x9 (IntKind.wrap .u32 (x9 - (1 : Int))))
      else none
    else
      some x8
def sigset_List.l0_S (x8 : List Int) (x9 : Int) : St := ⟨[.v (.one (.sc (.int .u32 x9))), .any, .any, .v (.one (.os 0 0 0 1 (List.length x8) none)), .any, .any, .any, .any, .any, .any, .any, .any, .any, .any, .any, .any, .any, .any], [.gro false (.int .i64) x8 3], 0⟩
def sigset_List.l0_Q (t : (List Int)) : Exit → St → Prop := fun e s => e = (.exit 0) ∧ s = ⟨[.any, .any, .any, .v (.one (.os 0 0 0 1 (List.length t) none)), .any, .any, .any, .any, .any, .any, .any, .any, .any, .any, .any, .any, .any, .any], [.gro false (.int .i64) t 3], 0⟩
theorem sigset_List.l0_ok : ∀ (n : Nat) (x8 : List Int) (x9 : Int) (r : (List Int)), sigset_List.l0 n x8 x9 = some r → TripN cfg (cpath (Tryd.f17.body.getD .skip) [1, 1, 0, 1, 0, 0]) n (sigset_List.l0_S x8 x9) (sigset_List.l0_Q r) := by
  intro n
  induction n with
  | zero => intro x8 x9 r h; cases h
  | succ n ih =>
    intro x8 x9 r h
    rw [sigset_List.l0] at h
    refine TripN.of_run cfg_ok (k := (.br (.call true [] (Int) (fun t16 => sigset_First.R t16) (fun t16 => (.d (.b true) (.adj [] (.adj [.keep [0, 3], .drop 1] .nil))))) (.adj [.keep [3], .drop 1] .nil))) (to_goal (q := (True) ∧ (((x9 != (0 : Int)) = true → (∃ t16 : Int, (Fun cfg 19 [.one (.sc (.int .u32 x9))] [] (sigset_First.R t16) [] ∧ True) ∧ ((0 = 0 ∧ 1 = 1) ∧ 0 = 0 ∧ (List.length x8) = (List.length x8) ∧ (((List.length x8) + 1) * 8 ≤ 140737488355328 ∧ (List.length x8) + 1 ≤ 9223372036854775807)) ∧ (True ∧ (True) ∧ (True) ∧ (((True) ∧ (True) ∧ True) ∧ TripN cfg (cpath (Tryd.f17.body.getD .skip) [1, 1, 0, 1, 0, 0]) n (sigset_List.l0_S (x8 ++ [t16]) (bits .and .u32 x9 (IntKind.wrap .u32 (x9 - (1 : Int))))) (sigset_List.l0_Q r))))) ∧ ((x9 != (0 : Int)) = false → (((True) ∧ (True) ∧ True) ∧ sigset_List.l0_Q r (.exit 0) ⟨[.any, .any, .any, .v (.one (.os 0 0 0 1 (List.length x8) none)), .any, .any, .any, .any, .any, .any, .any, .any, .any, .any, .any, .any, .any, .any], [.gro false (.int .i64) x8 3], 0⟩)))) (by kernel_rfl) ?_)
    refine ⟨trivial, ?_⟩
    refine ⟨fun b15 => ?_, fun b15 => ?_⟩
    · rw [if_pos (bne_t b15)] at h
      obtain ⟨t16, ht16, h⟩ := of_bind h
      refine ⟨t16, ⟨sigset_First.fun_ ht16, trivial⟩, ?_⟩
      obtain ⟨g17, h⟩ := of_guard h
      refine ⟨g17, ?_⟩
      refine ⟨trivial, ?_⟩
      refine ⟨trivial, ?_⟩
      refine ⟨trivial, ?_⟩
      exact ⟨⟨trivial, trivial, trivial⟩, ih (x8 ++ [t16]) (bits .and .u32 x9 (IntKind.wrap .u32 (x9 - (1 : Int)))) r h⟩
    · rw [if_neg (not_not_intro (bne_f b15))] at h
      obtain rfl := Option.some.inj h
      exact ⟨⟨trivial, trivial, trivial⟩, rfl, rfl⟩
def sigset_List.f (a0 : Int) : Option (List Int) :=
  (sigset_List.l0 FUEL ([] : List Int) (bits .and .u32 a0 (2147483647 : Int))).bind fun t14 =>
  some t14
def sigset_List.R (r : (List Int)) : Tm := .v (.one (.fs (.int .i64) r false))
theorem sigset_List.fun_ {a0 : Int} {r : (List Int)} (h : sigset_List.f a0 = some r) : Fun cfg 17 [.one (.sc (.int .u32 a0))] [] (sigset_List.R r) [] := by
  unfold sigset_List.f at h
  refine fun_of_run cfg_ok (f := 17) (fn := Tryd.f17) Tryd.func17 rfl (by kernel_rfl) (rs := [.tmp 2]) rfl (nt := 18) rfl (l := fin) (k := (.adj [] (.adj [] (.adj [] (.adj [] (.adj [.keep [0, 3], .nilGro 3 (.int .i64) 3] (.sub ((List Int)) (fun _ => (.exit 0)) (fun t14 => ⟨[.any, .any, .any, .v (.one (.os 0 0 0 1 (List.length t14) none)), .any, .any, .any, .any, .any, .any, .any, .any, .any, .any, .any, .any, .any, .any], [.gro false (.int .i64) t14 3], 0⟩) (fun t14 => (.adj [] (.adj [] (.adj [.co 0 true [], .drop 0] .nil))))))))))) (to_goal (q := (True ∧ (True ∧ (True ∧ (True) ∧ (True ∧ (((True) ∧ (True) ∧ True) ∧ (∃ t14 : (List Int), Trip cfg (.loop (cpath (Tryd.f17.body.getD .skip) [1, 1, 0, 1, 0, 0])) ⟨[.v (.one (.sc (.int .u32 (bits .and .u32 a0 (2147483647 : Int))))), .any, .any, .v (.one (.os 0 0 0 1 0 none)), .any, .any, .any, .any, .any, .any, .any, .any, .any, .any, .any, .any, .any, .any], [.gro false (.int .i64) ([] : List Int) 3], 0⟩ (fun e s => e = (.exit 0) ∧ s = ⟨[.any, .any, .any, .v (.one (.os 0 0 0 1 (List.length t14) none)), .any, .any, .any, .any, .any, .any, .any, .any, .any, .any, .any, .any, .any, .any], [.gro false (.int .i64) t14 3], 0⟩) ∧ (True ∧ (True ∧ ((True) ∧ ((((0 = 0 ∧ (List.length t14) = (List.length t14))) ∧ True) ∧ (True) ∧ True) ∧ (.v (.one (.fs (.int .i64) t14 false)) : Tm) = sigset_List.R r ∧ ([] : List Box) = [])))))))))) (by kernel_rfl) ?_)
  refine ⟨trivial, ?_⟩
  refine ⟨trivial, ?_⟩
  refine ⟨trivial, ?_⟩
  refine ⟨trivial, ?_⟩
  refine ⟨trivial, ?_⟩
  obtain ⟨t14, ht14, h⟩ := of_bind h
  refine ⟨⟨trivial, trivial, trivial⟩, t14, Trip.loop FUEL (sigset_List.l0_ok FUEL ([] : List Int) (bits .and .u32 a0 (2147483647 : Int)) t14 ht14), ?_⟩
  refine ⟨trivial, ?_⟩
  refine ⟨trivial, ?_⟩
  obtain rfl := Option.some.inj h
  exact ⟨trivial, ⟨⟨⟨rfl, rfl⟩, trivial⟩, trivial, trivial⟩, rfl, rfl⟩
/-! halter/halterlaw03.sure -/
def halterlaw03_sure.f : Option Bool :=
  (sigset_One.f (1 : Int)).bind fun t1 =>
  (sigset_Add.f t1 (9 : Int)).bind fun t2 =>
  (sigset_Parse.f (⟨#[48, 48, 48, 48, 48, 49, 48, 49]⟩ : ByteArray)).bind fun t3 =>
  (sigset_Text.f t2).bind fun t4 =>
  if t4 = (⟨#[48, 48, 48, 48, 48, 49, 48, 49]⟩ : ByteArray) then
    if t3.2 = none then
      if t3.1 = t2 then
        (sigset_Del.f t2 (1 : Int)).bind fun t8 =>
        (sigset_First.f t8).bind fun t9 =>
        if t9 = (9 : Int) then
          (sigset_Count.f t2).bind fun t11 =>
          if t11 = (2 : Int) then
            (sigset_Has.f t2 (9 : Int)).bind fun t13 =>
            some t13
          else
            some false
        else
          some false
      else
        some false
    else
      some false
  else
    some false
def halterlaw03_sure.R (r : Bool) : Tm := .v (.one (.sc (.bool r)))
theorem halterlaw03_sure.fun_ {r : Bool} (h : halterlaw03_sure.f = some r) : Fun cfg 20 [] [] (halterlaw03_sure.R r) [] := by
  unfold halterlaw03_sure.f at h
  refine fun_of_run cfg_ok (f := 20) (fn := Tryd.f20) Tryd.func20 rfl (by kernel_rfl) (rs := [.tmp 0]) rfl (nt := 37) rfl (l := fin) (k := (.call true [] (Int) (fun t1 => sigset_One.R t1) (fun t1 => (.call true [] (Int) (fun t2 => sigset_Add.R t2) (fun t2 => (.call true [] (Int × (Option Int)) (fun t3 => sigset_Parse.R t3) (fun t3 => (.call true [] (ByteArray) (fun t4 => sigset_Text.R t4) (fun t4 => (.br (.one true (.one true (.br (.one true (.one true (.one true (.br (.one true (.call true [] (Int) (fun t8 => sigset_Del.R t8) (fun t8 => (.one true (.call true [] (Int) (fun t9 => sigset_First.R t9) (fun t9 => (.one true (.one true (.br (.one true (.call true [] (Int) (fun t11 => sigset_Count.R t11) (fun t11 => (.one true (.one true (.br (.one true (.call true [] (Bool) (fun t13 => sigset_Has.R t13) (fun t13 => (.one true (.adj [] (.adj [] .nil)))))) (.one false (.one false (.adj [] (.adj [] .nil)))))))))) (.one false (.one false (.one false (.one false (.one false (.one false (.adj [] (.adj [] .nil))))))))))))))))) (.one false (.one false (.one false (.one false (.one false (.one false (.one false (.one false (.one false (.one false (.one false (.adj [] (.adj [] .nil))))))))))))))))) (.one false (.one false (.one false (.one false (.one false (.one false (.one false (.one false (.one false (.one false (.one false (.one false (.one false (.one false (.one false (.adj [] (.adj [] .nil)))))))))))))))))))) (.one false (.one false (.one false (.one false (.one false (.one false (.one false (.one false (.one false (.one false (.one false (.one false (.one false (.one false (.one false (.one false (.one false (.one false (.adj [] (.adj [] .nil)))))))))))))))))))))))))))))) (to_goal (q := (∃ t1 : Int, (Fun cfg 14 [.one (.sc (.int .i64 (1 : Int)))] [] (sigset_One.R t1) [] ∧ True) ∧ (∃ t2 : Int, (Fun cfg 8 [.one (.sc (.int .u32 t1)), .one (.sc (.int .i64 (9 : Int)))] [] (sigset_Add.R t2) [] ∧ True) ∧ (∃ t3 : Int × (Option Int), (Fun cfg 21 [.one (.sc (.string (⟨#[48, 48, 48, 48, 48, 49, 48, 49]⟩ : ByteArray)))] [] (sigset_Parse.R t3) [] ∧ True) ∧ (∃ t4 : ByteArray, (Fun cfg 22 [.one (.sc (.int .u32 t2))] [] (sigset_Text.R t4) [] ∧ True) ∧ (True) ∧ (((t4.toList == (⟨#[48, 48, 48, 48, 48, 49, 48, 49]⟩ : ByteArray).toList) = true → ((t4.toList == (⟨#[48, 48, 48, 48, 48, 49, 48, 49]⟩ : ByteArray).toList) = true ∧ (True) ∧ ((t4.toList == (⟨#[48, 48, 48, 48, 48, 49, 48, 49]⟩ : ByteArray).toList) = true ∧ (((Option.isNone t3.2) = true → ((Option.isNone t3.2) = true ∧ ((Option.isNone t3.2) = true ∧ (True) ∧ ((Option.isNone t3.2) = true ∧ (((t3.1 == t2) = true → ((t3.1 == t2) = true ∧ (∃ t8 : Int, (Fun cfg 10 [.one (.sc (.int .u32 t2)), .one (.sc (.int .i64 (1 : Int)))] [] (sigset_Del.R t8) [] ∧ True) ∧ ((t3.1 == t2) = true ∧ (∃ t9 : Int, (Fun cfg 19 [.one (.sc (.int .u32 t8))] [] (sigset_First.R t9) [] ∧ True) ∧ ((t3.1 == t2) = true ∧ (True) ∧ ((t3.1 == t2) = true ∧ (((t9 == (9 : Int)) = true → ((t9 == (9 : Int)) = true ∧ (∃ t11 : Int, (Fun cfg 18 [.one (.sc (.int .u32 t2))] [] (sigset_Count.R t11) [] ∧ True) ∧ ((t9 == (9 : Int)) = true ∧ (True) ∧ ((t9 == (9 : Int)) = true ∧ (((t11 == (2 : Int)) = true → ((t11 == (2 : Int)) = true ∧ (∃ t13 : Bool, (Fun cfg 12 [.one (.sc (.int .u32 t2)), .one (.sc (.int .i64 (9 : Int)))] [] (sigset_Has.R t13) [] ∧ True) ∧ ((t11 == (2 : Int)) = true ∧ (True ∧ ((True) ∧ (True) ∧ (.v (.one (.sc (.bool t13))) : Tm) = halterlaw03_sure.R r ∧ ([] : List Box) = [])))))) ∧ ((t11 == (2 : Int)) = false → ((t11 == (2 : Int)) = false ∧ ((t11 == (2 : Int)) = false ∧ (True ∧ ((True) ∧ (True) ∧ (.v (.one (.sc (.bool false))) : Tm) = halterlaw03_sure.R r ∧ ([] : List Box) = []))))))))))) ∧ ((t9 == (9 : Int)) = false → ((t9 == (9 : Int)) = false ∧ ((t9 == (9 : Int)) = false ∧ ((t9 == (9 : Int)) = false ∧ (false = false ∧ (false = false ∧ (false = false ∧ (True ∧ ((True) ∧ (True) ∧ (.v (.one (.sc (.bool false))) : Tm) = halterlaw03_sure.R r ∧ ([] : List Box) = []))))))))))))))))) ∧ ((t3.1 == t2) = false → ((t3.1 == t2) = false ∧ ((t3.1 == t2) = false ∧ ((t3.1 == t2) = false ∧ ((t3.1 == t2) = false ∧ (false = false ∧ (false = false ∧ (false = false ∧ (false = false ∧ (false = false ∧ (false = false ∧ (false = false ∧ (True ∧ ((True) ∧ (True) ∧ (.v (.one (.sc (.bool false))) : Tm) = halterlaw03_sure.R r ∧ ([] : List Box) = []))))))))))))))))))) ∧ ((Option.isNone t3.2) = false → ((Option.isNone t3.2) = false ∧ ((Option.isNone t3.2) = false ∧ ((Option.isNone t3.2) = false ∧ (false = false ∧ (false = false ∧ (false = false ∧ (false = false ∧ (false = false ∧ (false = false ∧ (false = false ∧ (false = false ∧ (false = false ∧ (false = false ∧ (false = false ∧ (false = false ∧ (True ∧ ((True) ∧ (True) ∧ (.v (.one (.sc (.bool false))) : Tm) = halterlaw03_sure.R r ∧ ([] : List Box) = [])))))))))))))))))))))) ∧ ((t4.toList == (⟨#[48, 48, 48, 48, 48, 49, 48, 49]⟩ : ByteArray).toList) = false → ((t4.toList == (⟨#[48, 48, 48, 48, 48, 49, 48, 49]⟩ : ByteArray).toList) = false ∧ ((t4.toList == (⟨#[48, 48, 48, 48, 48, 49, 48, 49]⟩ : ByteArray).toList) = false ∧ (false = false ∧ (false = false ∧ (false = false ∧ (false = false ∧ (false = false ∧ (false = false ∧ (false = false ∧ (false = false ∧ (false = false ∧ (false = false ∧ (false = false ∧ (false = false ∧ (false = false ∧ (false = false ∧ (false = false ∧ (false = false ∧ (True ∧ ((True) ∧ (True) ∧ (.v (.one (.sc (.bool false))) : Tm) = halterlaw03_sure.R r ∧ ([] : List Box) = []))))))))))))))))))))))))))) (by kernel_rfl) ?_)
  obtain ⟨t1, ht1, h⟩ := of_bind h
  refine ⟨t1, ⟨sigset_One.fun_ ht1, trivial⟩, ?_⟩
  obtain ⟨t2, ht2, h⟩ := of_bind h
  refine ⟨t2, ⟨sigset_Add.fun_ ht2, trivial⟩, ?_⟩
  obtain ⟨t3, ht3, h⟩ := of_bind h
  refine ⟨t3, ⟨sigset_Parse.fun_ ht3, trivial⟩, ?_⟩
  obtain ⟨t4, ht4, h⟩ := of_bind h
  refine ⟨t4, ⟨sigset_Text.fun_ ht4, trivial⟩, ?_⟩
  refine ⟨trivial, ?_⟩
  refine ⟨fun b5 => ?_, fun b5 => ?_⟩
  · rw [if_pos (str_t b5)] at h
    refine ⟨b5, ?_⟩
    refine ⟨trivial, ?_⟩
    refine ⟨b5, ?_⟩
    refine ⟨fun b6 => ?_, fun b6 => ?_⟩
    · rw [if_pos (none_t b6)] at h
      refine ⟨b6, ?_⟩
      refine ⟨b6, ?_⟩
      refine ⟨trivial, ?_⟩
      refine ⟨b6, ?_⟩
      refine ⟨fun b7 => ?_, fun b7 => ?_⟩
      · rw [if_pos (beq_t b7)] at h
        refine ⟨b7, ?_⟩
        obtain ⟨t8, ht8, h⟩ := of_bind h
        refine ⟨t8, ⟨sigset_Del.fun_ ht8, trivial⟩, ?_⟩
        refine ⟨b7, ?_⟩
        obtain ⟨t9, ht9, h⟩ := of_bind h
        refine ⟨t9, ⟨sigset_First.fun_ ht9, trivial⟩, ?_⟩
        refine ⟨b7, ?_⟩
        refine ⟨trivial, ?_⟩
        refine ⟨b7, ?_⟩
        refine ⟨fun b10 => ?_, fun b10 => ?_⟩
        · rw [if_pos (beq_t b10)] at h
          refine ⟨b10, ?_⟩
          obtain ⟨t11, ht11, h⟩ := of_bind h
          refine ⟨t11, ⟨sigset_Count.fun_ ht11, trivial⟩, ?_⟩
          refine ⟨b10, ?_⟩
          refine ⟨trivial, ?_⟩
          refine ⟨b10, ?_⟩
          refine ⟨fun b12 => ?_, fun b12 => ?_⟩
          · rw [if_pos (beq_t b12)] at h
            refine ⟨b12, ?_⟩
            obtain ⟨t13, ht13, h⟩ := of_bind h
            refine ⟨t13, ⟨sigset_Has.fun_ ht13, trivial⟩, ?_⟩
            refine ⟨b12, ?_⟩
            refine ⟨trivial, ?_⟩
            obtain rfl := Option.some.inj h
            exact ⟨trivial, trivial, rfl, rfl⟩
          · rw [if_neg (beq_f b12)] at h
            refine ⟨b12, ?_⟩
            refine ⟨b12, ?_⟩
            refine ⟨trivial, ?_⟩
            obtain rfl := Option.some.inj h
            exact ⟨trivial, trivial, rfl, rfl⟩
        · rw [if_neg (beq_f b10)] at h
          refine ⟨b10, ?_⟩
          refine ⟨b10, ?_⟩
          refine ⟨b10, ?_⟩
          refine ⟨rfl, ?_⟩
          refine ⟨rfl, ?_⟩
          refine ⟨rfl, ?_⟩
          refine ⟨trivial, ?_⟩
          obtain rfl := Option.some.inj h
          exact ⟨trivial, trivial, rfl, rfl⟩
      · rw [if_neg (beq_f b7)] at h
        refine ⟨b7, ?_⟩
        refine ⟨b7, ?_⟩
        refine ⟨b7, ?_⟩
        refine ⟨b7, ?_⟩
        refine ⟨rfl, ?_⟩
        refine ⟨rfl, ?_⟩
        refine ⟨rfl, ?_⟩
        refine ⟨rfl, ?_⟩
        refine ⟨rfl, ?_⟩
        refine ⟨rfl, ?_⟩
        refine ⟨rfl, ?_⟩
        refine ⟨trivial, ?_⟩
        obtain rfl := Option.some.inj h
        exact ⟨trivial, trivial, rfl, rfl⟩
    · rw [if_neg (none_f b6)] at h
      refine ⟨b6, ?_⟩
      refine ⟨b6, ?_⟩
      refine ⟨b6, ?_⟩
      refine ⟨rfl, ?_⟩
      refine ⟨rfl, ?_⟩
      refine ⟨rfl, ?_⟩
      refine ⟨rfl, ?_⟩
      refine ⟨rfl, ?_⟩
      refine ⟨rfl, ?_⟩
      refine ⟨rfl, ?_⟩
      refine ⟨rfl, ?_⟩
      refine ⟨rfl, ?_⟩
      refine ⟨rfl, ?_⟩
      refine ⟨rfl, ?_⟩
      refine ⟨rfl, ?_⟩
      refine ⟨trivial, ?_⟩
      obtain rfl := Option.some.inj h
      exact ⟨trivial, trivial, rfl, rfl⟩
  · rw [if_neg (str_f b5)] at h
    refine ⟨b5, ?_⟩
    refine ⟨b5, ?_⟩
    refine ⟨rfl, ?_⟩
    refine ⟨rfl, ?_⟩
    refine ⟨rfl, ?_⟩
    refine ⟨rfl, ?_⟩
    refine ⟨rfl, ?_⟩
    refine ⟨rfl, ?_⟩
    refine ⟨rfl, ?_⟩
    refine ⟨rfl, ?_⟩
    refine ⟨rfl, ?_⟩
    refine ⟨rfl, ?_⟩
    refine ⟨rfl, ?_⟩
    refine ⟨rfl, ?_⟩
    refine ⟨rfl, ?_⟩
    refine ⟨rfl, ?_⟩
    refine ⟨rfl, ?_⟩
    refine ⟨rfl, ?_⟩
    refine ⟨trivial, ?_⟩
    obtain rfl := Option.some.inj h
    exact ⟨trivial, trivial, rfl, rfl⟩
/-! halter/halterlaw03.SetLaws -/
def halterlaw03_SetLaws.c0 (a2 : Int) (a1 : Int) : Bool := ((IntKind.wrap .i64 ((1 : Int) + (IntKind.wrap .i64 ((Int.tmod (IntKind.wrap .u64 (a2)) (31 : Int)))))) != (IntKind.wrap .i64 ((1 : Int) + (IntKind.wrap .i64 ((Int.tmod (IntKind.wrap .u64 (a1)) (31 : Int)))))))
def halterlaw03_SetLaws.j1 (t21 : (List Int)) (x22 : Int) (x23 : Int) (a0 : Int) : Option ((Int) ⊕ (Unit)) :=
  if x23 > (0 : Int) then
    if 0 ≤ (IntKind.wrap .i64 (x23 - (1 : Int))) ∧ (IntKind.wrap .i64 (x23 - (1 : Int))) < (((List.length t21) : Nat) : Int) then
      if 0 ≤ x23 ∧ x23 < (((List.length t21) : Nat) : Int) then
        if (List.getD t21 (Int.toNat (IntKind.wrap .i64 (x23 - (1 : Int)))) (0 : Int)) ≥ (List.getD t21 (Int.toNat x23) (0 : Int)) then
          some (.inr ())
        else
          if 0 ≤ x23 ∧ x23 < (((List.length t21) : Nat) : Int) then
            (sigset_Add.f x22 (List.getD t21 (Int.toNat x23) (0 : Int))).bind fun t55 =>
            some (.inl t55)
          else none
      else none
    else none
  else
    if 0 ≤ x23 ∧ x23 < (((List.length t21) : Nat) : Int) then
      (sigset_Add.f x22 (List.getD t21 (Int.toNat x23) (0 : Int))).bind fun t57 =>
      some (.inl t57)
    else none
def halterlaw03_SetLaws.j1_S (t21 : (List Int)) (x22 : Int) (x23 : Int) (a0 : Int) : St := ⟨[.any, .any, .any, .any, .any, .any, .any, .v (.one (.sc (.int .u32 (Int.tmod a0 (2147483648 : Int))))), .any, .any, .any, .any, .any, .any, .v (.one (.sc (.int .u32 x22))), .v (.one (.fs (.int .i64) t21 false)), .v (.one (.sc (.int .i64 x23))), .any, .any, .any, .any, .any, .any, .any, .any, .any, .any, .any, .any, .any, .any, .any, .any, .any, .any, .any, .any, .any, .any, .any, .any, .any, .any, .any, .any, .any, .any, .any, .any, .any, .any, .any, .any, .any, .any, .any, .any, .any, .any, .any, .any, .any, .any, .any, .any, .any, .any, .any, .any, .any, .any, .any, .any, .any, .any, .any, .any, .any, .any, .any, .any, .any, .any, .any, .any, .any, .any, .any, .any, .any, .any, .any, .any, .any, .any, .any, .any, .any, .any, .any, .any, .any, .any, .any, .any, .any, .any, .any, .any, .any, .any, .any, .any, .any, .any, .any, .any, .any, .any, .any, .any, .any], [], 0⟩
def halterlaw03_SetLaws.j1_Q (t21 : (List Int)) (x22 : Int) (x23 : Int) (a0 : Int) : (Int) ⊕ (Unit) → Exit → St → Prop
  | .inl t => fun e s => e = .normal ∧ s = ⟨[.any, .any, .any, .any, .any, .any, .any, .v (.one (.sc (.int .u32 (Int.tmod a0 (2147483648 : Int))))), .any, .any, .any, .any, .any, .any, .v (.one (.sc (.int .u32 t))), .v (.one (.fs (.int .i64) t21 false)), .v (.one (.sc (.int .i64 x23))), .any, .any, .any, .any, .any, .any, .any, .any, .any, .any, .any, .any, .any, .any, .any, .any, .any, .any, .any, .any, .any, .any, .any, .any, .any, .any, .any, .any, .any, .any, .any, .any, .any, .any, .any, .any, .any, .any, .any, .any, .any, .any, .any, .any, .any, .any, .any, .any, .any, .any, .any, .any, .any, .any, .any, .any, .any, .any, .any, .any, .any, .any, .any, .any, .any, .any, .any, .any, .any, .any, .any, .any, .any, .any, .any, .any, .any, .any, .any, .any, .any, .any, .any, .any, .any, .any, .any, .any, .any, .any, .any, .any, .any, .any, .any, .any, .any, .any, .any, .any, .any, .any, .any, .any, .any], [], 0⟩
  | .inr t => fun e s => e = .ret ∧ s = ⟨[.any, .any, .any, .any, .any, .any, .v (.one (.sc (.bool false))), .any, .any, .any, .any, .any, .any, .any, .any, .any, .any, .any, .any, .any, .any, .any, .any, .any, .any, .any, .any, .any, .any, .any, .any, .any, .any, .any, .any, .any, .any, .any, .any, .any, .any, .any, .any, .any, .any, .any, .any, .any, .any, .any, .any, .any, .any, .any, .any, .any, .any, .any, .any, .any, .any, .any, .any, .any, .any, .any, .any, .any, .any, .any, .any, .any, .any, .any, .any, .any, .any, .any, .any, .any, .any, .any, .any, .any, .any, .any, .any, .any, .any, .any, .any, .any, .any, .any, .any, .any, .any, .any, .any, .any, .any, .any, .any, .any, .any, .any, .any, .any, .any, .any, .any, .any, .any, .any, .any, .any, .any, .any, .any, .any, .any, .any], [], 0⟩
theorem halterlaw03_SetLaws.j1_ok (t21 : (List Int)) (x22 : Int) (x23 : Int) (a0 : Int) (r : (Int) ⊕ (Unit)) (h : halterlaw03_SetLaws.j1 t21 x22 x23 a0 = some r) : Trip cfg (cpath (Tryd.f4.body.getD .skip) [1, 1, 1, 1, 1, 1, 1, 1, 1, 0, 1, 0, 0, 1, 0]) (halterlaw03_SetLaws.j1_S t21 x22 x23 a0) (halterlaw03_SetLaws.j1_Q t21 x22 x23 a0 r) := by
  unfold halterlaw03_SetLaws.j1 at h
  refine Trip.of_run cfg_ok (k := (.emb (decide (x23 > (0 : Int))) (.dr [(0, dN), (1, dN), (2, dN), (3, dT), (4, dT), (5, dT), (6, dT), (8, dT), (9, dT), (10, dT), (7, dT), (11, dT), (12, dT), (13, d1)] (.br (.adj [] (.adj [.keep [6], .drop 0] .nil)) (.call true [] (Int) (fun t55 => sigset_Add.R t55) (fun t55 => (.adj [.keep [7, 14, 15, 16], .drop 0] .nil))))) (.dr [(0, dN), (1, dN), (2, dN), (3, dF), (4, dF), (5, dF), (6, dF), (8, dF), (9, dF), (10, dF), (7, dF), (11, dF), (12, dF), (13, d0)] (.one false (.call true [] (Int) (fun t57 => sigset_Add.R t57) (fun t57 => (.adj [.keep [7, 14, 15, 16], .drop 0] .nil))))))) (to_goal (q := (((decide (x23 > (0 : Int))) = true → (True) ∧ ((decide (x23 > (0 : Int))) = true ∧ True) ∧ ((decide (x23 > (0 : Int))) = true ∧ True) ∧ ((decide (x23 > (0 : Int))) = true ∧ True) ∧ ((decide (x23 > (0 : Int))) = true ∧ 0 ≤ (IntKind.wrap .i64 (x23 - (1 : Int))) ∧ (IntKind.wrap .i64 (x23 - (1 : Int))) < (((List.length t21) : Nat) : Int)) ∧ ((decide (x23 > (0 : Int))) = true ∧ True) ∧ ((decide (x23 > (0 : Int))) = true ∧ True) ∧ ((decide (x23 > (0 : Int))) = true ∧ 0 ≤ x23 ∧ x23 < (((List.length t21) : Nat) : Int)) ∧ ((decide (x23 > (0 : Int))) = true ∧ True) ∧ ((decide (x23 > (0 : Int))) = true ∧ True) ∧ ((decide (x23 > (0 : Int))) = true ∧ True) ∧ ((decide (x23 > (0 : Int))) = true) ∧ (((decide ((List.getD t21 (Int.toNat (IntKind.wrap .i64 (x23 - (1 : Int)))) (0 : Int)) ≥ (List.getD t21 (Int.toNat x23) (0 : Int)))) = true → (True ∧ (((True) ∧ (True) ∧ True) ∧ halterlaw03_SetLaws.j1_Q t21 x22 x23 a0 r .ret ⟨[.any, .any, .any, .any, .any, .any, .v (.one (.sc (.bool false))), .any, .any, .any, .any, .any, .any, .any, .any, .any, .any, .any, .any, .any, .any, .any, .any, .any, .any, .any, .any, .any, .any, .any, .any, .any, .any, .any, .any, .any, .any, .any, .any, .any, .any, .any, .any, .any, .any, .any, .any, .any, .any, .any, .any, .any, .any, .any, .any, .any, .any, .any, .any, .any, .any, .any, .any, .any, .any, .any, .any, .any, .any, .any, .any, .any, .any, .any, .any, .any, .any, .any, .any, .any, .any, .any, .any, .any, .any, .any, .any, .any, .any, .any, .any, .any, .any, .any, .any, .any, .any, .any, .any, .any, .any, .any, .any, .any, .any, .any, .any, .any, .any, .any, .any, .any, .any, .any, .any, .any, .any, .any, .any, .any, .any, .any], [], 0⟩))) ∧ ((decide ((List.getD t21 (Int.toNat (IntKind.wrap .i64 (x23 - (1 : Int)))) (0 : Int)) ≥ (List.getD t21 (Int.toNat x23) (0 : Int)))) = false → (0 ≤ x23 ∧ x23 < (((List.length t21) : Nat) : Int)) ∧ (True) ∧ (∃ t55 : Int, (Fun cfg 8 [.one (.sc (.int .u32 x22)), .one (.sc (.int .i64 (List.getD t21 (Int.toNat x23) (0 : Int))))] [] (sigset_Add.R t55) [] ∧ True) ∧ (((True) ∧ (True) ∧ True) ∧ halterlaw03_SetLaws.j1_Q t21 x22 x23 a0 r .normal ⟨[.any, .any, .any, .any, .any, .any, .any, .v (.one (.sc (.int .u32 (Int.tmod a0 (2147483648 : Int))))), .any, .any, .any, .any, .any, .any, .v (.one (.sc (.int .u32 t55))), .v (.one (.fs (.int .i64) t21 false)), .v (.one (.sc (.int .i64 x23))), .any, .any, .any, .any, .any, .any, .any, .any, .any, .any, .any, .any, .any, .any, .any, .any, .any, .any, .any, .any, .any, .any, .any, .any, .any, .any, .any, .any, .any, .any, .any, .any, .any, .any, .any, .any, .any, .any, .any, .any, .any, .any, .any, .any, .any, .any, .any, .any, .any, .any, .any, .any, .any, .any, .any, .any, .any, .any, .any, .any, .any, .any, .any, .any, .any, .any, .any, .any, .any, .any, .any, .any, .any, .any, .any, .any, .any, .any, .any, .any, .any, .any, .any, .any, .any, .any, .any, .any, .any, .any, .any, .any, .any, .any, .any, .any, .any, .any, .any, .any, .any, .any, .any, .any, .any], [], 0⟩))))) ∧ ((decide (x23 > (0 : Int))) = false → (True) ∧ ((decide (x23 > (0 : Int))) = false) ∧ ((decide (x23 > (0 : Int))) = false) ∧ ((decide (x23 > (0 : Int))) = false) ∧ ((decide (x23 > (0 : Int))) = false) ∧ ((decide (x23 > (0 : Int))) = false) ∧ ((decide (x23 > (0 : Int))) = false) ∧ ((decide (x23 > (0 : Int))) = false) ∧ ((decide (x23 > (0 : Int))) = false) ∧ ((decide (x23 > (0 : Int))) = false) ∧ ((decide (x23 > (0 : Int))) = false) ∧ ((decide (x23 > (0 : Int))) = false) ∧ (false = false ∧ (0 ≤ x23 ∧ x23 < (((List.length t21) : Nat) : Int)) ∧ (True) ∧ (∃ t57 : Int, (Fun cfg 8 [.one (.sc (.int .u32 x22)), .one (.sc (.int .i64 (List.getD t21 (Int.toNat x23) (0 : Int))))] [] (sigset_Add.R t57) [] ∧ True) ∧ (((True) ∧ (True) ∧ True) ∧ halterlaw03_SetLaws.j1_Q t21 x22 x23 a0 r .normal ⟨[.any, .any, .any, .any, .any, .any, .any, .v (.one (.sc (.int .u32 (Int.tmod a0 (2147483648 : Int))))), .any, .any, .any, .any, .any, .any, .v (.one (.sc (.int .u32 t57))), .v (.one (.fs (.int .i64) t21 false)), .v (.one (.sc (.int .i64 x23))), .any, .any, .any, .any, .any, .any, .any, .any, .any, .any, .any, .any, .any, .any, .any, .any, .any, .any, .any, .any, .any, .any, .any, .any, .any, .any, .any, .any, .any, .any, .any, .any, .any, .any, .any, .any, .any, .any, .any, .any, .any, .any, .any, .any, .any, .any, .any, .any, .any, .any, .any, .any, .any, .any, .any, .any, .any, .any, .any, .any, .any, .any, .any, .any, .any, .any, .any, .any, .any, .any, .any, .any, .any, .any, .any, .any, .any, .any, .any, .any, .any, .any, .any, .any, .any, .any, .any, .any, .any, .any, .any, .any, .any, .any, .any, .any, .any, .any, .any, .any, .any, .any, .any, .any, .any], [], 0⟩)))))) (by kernel_rfl) ?_)
  refine ⟨fun b51 => ?_, fun b51 => ?_⟩
  · rw [if_pos (of_decide_eq_true b51)] at h
    obtain ⟨g52, h⟩ := of_guard h
    obtain ⟨g53, h⟩ := of_guard h
    refine ⟨trivial, ⟨b51, trivial⟩, ⟨b51, trivial⟩, ⟨b51, trivial⟩, ⟨b51, g52⟩, ⟨b51, trivial⟩, ⟨b51, trivial⟩, ⟨b51, g53⟩, ⟨b51, trivial⟩, ⟨b51, trivial⟩, ⟨b51, trivial⟩, b51, ?_⟩
    refine ⟨fun b54 => ?_, fun b54 => ?_⟩
    · rw [if_pos (of_decide_eq_true b54)] at h
      refine ⟨trivial, ?_⟩
      obtain rfl := Option.some.inj h
      exact ⟨⟨trivial, trivial, trivial⟩, rfl, rfl⟩
    · rw [if_neg (of_decide_eq_false b54)] at h
      obtain ⟨g56, h⟩ := of_guard h
      refine ⟨g56, ?_⟩
      refine ⟨trivial, ?_⟩
      obtain ⟨t55, ht55, h⟩ := of_bind h
      refine ⟨t55, ⟨sigset_Add.fun_ ht55, trivial⟩, ?_⟩
      obtain rfl := Option.some.inj h
      exact ⟨⟨trivial, trivial, trivial⟩, rfl, rfl⟩
  · rw [if_neg (of_decide_eq_false b51)] at h
    refine ⟨trivial, b51, b51, b51, b51, b51, b51, b51, b51, b51, b51, b51, ?_⟩
    refine ⟨rfl, ?_⟩
    obtain ⟨g58, h⟩ := of_guard h
    refine ⟨g58, ?_⟩
    refine ⟨trivial, ?_⟩
    obtain ⟨t57, ht57, h⟩ := of_bind h
    refine ⟨t57, ⟨sigset_Add.fun_ ht57, trivial⟩, ?_⟩
    obtain rfl := Option.some.inj h
    exact ⟨⟨trivial, trivial, trivial⟩, rfl, rfl⟩
def halterlaw03_SetLaws.l0 (t21 : (List Int)) (a0 : Int) : Nat → Int → Int → Option ((Int) ⊕ (Unit))
  | 0, _, _ => none
  | n + 1, x22, x23 =>
    if x23 < (((List.length t21) : Nat) : Int) then
      (halterlaw03_SetLaws.j1 t21 x22 x23 a0).bind fun t50 =>
      match t50 with
      | .inl t60 =>
        halterlaw03_SetLaws.l0 t21 a0 n t60 (IntKind.wrap .i64 (x23 + (1 : Int)))
      | .inr t62 =>
        some (.inr ())
    else
      some (.inl x22)
def halterlaw03_SetLaws.l0_S (t21 : (List Int)) (a0 : Int) (x22 : Int) (x23 : Int) : St := ⟨[.any, .any, .any, .any, .any, .any, .any, .v (.one (.sc (.int .u32 (Int.tmod a0 (2147483648 : Int))))), .any, .any, .any, .any, .any, .any, .v (.one (.sc (.int .u32 x22))), .v (.one (.fs (.int .i64) t21 false)), .v (.one (.sc (.int .i64 x23))), .any, .any, .any, .any, .any, .any, .any, .any, .any, .any, .any, .any, .any, .any, .any, .any, .any, .any, .any, .any, .any, .any, .any, .any, .any, .any, .any, .any, .any, .any, .any, .any, .any, .any, .any, .any, .any, .any, .any, .any, .any, .any, .any, .any, .any, .any, .any, .any, .any, .any, .any, .any, .any, .any, .any, .any, .any, .any, .any, .any, .any, .any, .any, .any, .any, .any, .any, .any, .any, .any, .any, .any, .any, .any, .any, .any, .any, .any, .any, .any, .any, .any, .any, .any, .any, .any, .any, .any, .any, .any, .any, .any, .any, .any, .any, .any, .any, .any, .any, .any, .any, .any, .any, .any, .any], [], 0⟩
def halterlaw03_SetLaws.l0_Q (t21 : (List Int)) (a0 : Int) : (Int) ⊕ (Unit) → Exit → St → Prop
  | .inl t => fun e s => e = (.exit 0) ∧ s = ⟨[.any, .any, .any, .any, .any, .any, .any, .v (.one (.sc (.int .u32 (Int.tmod a0 (2147483648 : Int))))), .any, .any, .any, .any, .any, .any, .v (.one (.sc (.int .u32 t))), .any, .any, .any, .any, .any, .any, .any, .any, .any, .any, .any, .any, .any, .any, .any, .any, .any, .any, .any, .any, .any, .any, .any, .any, .any, .any, .any, .any, .any, .any, .any, .any, .any, .any, .any, .any, .any, .any, .any, .any, .any, .any, .any, .any, .any, .any, .any, .any, .any, .any, .any, .any, .any, .any, .any, .any, .any, .any, .any, .any, .any, .any, .any, .any, .any, .any, .any, .any, .any, .any, .any, .any, .any, .any, .any, .any, .any, .any, .any, .any, .any, .any, .any, .any, .any, .any, .any, .any, .any, .any, .any, .any, .any, .any, .any, .any, .any, .any, .any, .any, .any, .any, .any, .any, .any, .any, .any], [], 0⟩
  | .inr t => fun e s => e = .ret ∧ s = ⟨[.any, .any, .any, .any, .any, .any, .v (.one (.sc (.bool false))), .any, .any, .any, .any, .any, .any, .any, .any, .any, .any, .any, .any, .any, .any, .any, .any, .any, .any, .any, .any, .any, .any, .any, .any, .any, .any, .any, .any, .any, .any, .any, .any, .any, .any, .any, .any, .any, .any, .any, .any, .any, .any, .any, .any, .any, .any, .any, .any, .any, .any, .any, .any, .any, .any, .any, .any, .any, .any, .any, .any, .any, .any, .any, .any, .any, .any, .any, .any, .any, .any, .any, .any, .any, .any, .any, .any, .any, .any, .any, .any, .any, .any, .any, .any, .any, .any, .any, .any, .any, .any, .any, .any, .any, .any, .any, .any, .any, .any, .any, .any, .any, .any, .any, .any, .any, .any, .any, .any, .any, .any, .any, .any, .any, .any, .any], [], 0⟩
theorem halterlaw03_SetLaws.l0_ok (t21 : (List Int)) (a0 : Int) : ∀ (n : Nat) (x22 : Int) (x23 : Int) (r : (Int) ⊕ (Unit)), halterlaw03_SetLaws.l0 t21 a0 n x22 x23 = some r → TripN cfg (cpath (Tryd.f4.body.getD .skip) [1, 1, 1, 1, 1, 1, 1, 1, 1, 0, 1, 0, 0]) n (halterlaw03_SetLaws.l0_S t21 a0 x22 x23) (halterlaw03_SetLaws.l0_Q t21 a0 r) := by
  intro n
  induction n with
  | zero => intro x22 x23 r h; cases h
  | succ n ih =>
    intro x22 x23 r h
    rw [halterlaw03_SetLaws.l0] at h
    refine TripN.of_run cfg_ok (k := (.br (.adj [] (.adj [.keep [7, 14, 15, 16]] (.altb (.blk (Int) (fun _ => .normal) (fun t60 => ⟨[.any, .any, .any, .any, .any, .any, .any, .v (.one (.sc (.int .u32 (Int.tmod a0 (2147483648 : Int))))), .any, .any, .any, .any, .any, .any, .v (.one (.sc (.int .u32 t60))), .v (.one (.fs (.int .i64) t21 false)), .v (.one (.sc (.int .i64 x23))), .any, .any, .any, .any, .any, .any, .any, .any, .any, .any, .any, .any, .any, .any, .any, .any, .any, .any, .any, .any, .any, .any, .any, .any, .any, .any, .any, .any, .any, .any, .any, .any, .any, .any, .any, .any, .any, .any, .any, .any, .any, .any, .any, .any, .any, .any, .any, .any, .any, .any, .any, .any, .any, .any, .any, .any, .any, .any, .any, .any, .any, .any, .any, .any, .any, .any, .any, .any, .any, .any, .any, .any, .any, .any, .any, .any, .any, .any, .any, .any, .any, .any, .any, .any, .any, .any, .any, .any, .any, .any, .any, .any, .any, .any, .any, .any, .any, .any, .any, .any, .any, .any, .any, .any, .any], [], 0⟩) (fun t60 => (.adj [] (.adj [.keep [7, 14, 15, 16], .drop 0] .nil)))) (.blk (Unit) (fun _ => .ret) (fun t62 => ⟨[.any, .any, .any, .any, .any, .any, .v (.one (.sc (.bool false))), .any, .any, .any, .any, .any, .any, .any, .any, .any, .any, .any, .any, .any, .any, .any, .any, .any, .any, .any, .any, .any, .any, .any, .any, .any, .any, .any, .any, .any, .any, .any, .any, .any, .any, .any, .any, .any, .any, .any, .any, .any, .any, .any, .any, .any, .any, .any, .any, .any, .any, .any, .any, .any, .any, .any, .any, .any, .any, .any, .any, .any, .any, .any, .any, .any, .any, .any, .any, .any, .any, .any, .any, .any, .any, .any, .any, .any, .any, .any, .any, .any, .any, .any, .any, .any, .any, .any, .any, .any, .any, .any, .any, .any, .any, .any, .any, .any, .any, .any, .any, .any, .any, .any, .any, .any, .any, .any, .any, .any, .any, .any, .any, .any, .any, .any], [], 0⟩) (fun t62 => .nil))))) (.adj [.keep [7, 14], .drop 0] .nil))) (to_goal (q := (True) ∧ (True) ∧ (((decide (x23 < (((List.length t21) : Nat) : Int))) = true → (True ∧ (((True) ∧ True) ∧ ((∃ t60 : Int, Trip cfg (cpath (Tryd.f4.body.getD .skip) [1, 1, 1, 1, 1, 1, 1, 1, 1, 0, 1, 0, 0, 1, 0]) ⟨[.any, .any, .any, .any, .any, .any, .any, .v (.one (.sc (.int .u32 (Int.tmod a0 (2147483648 : Int))))), .any, .any, .any, .any, .any, .any, .v (.one (.sc (.int .u32 x22))), .v (.one (.fs (.int .i64) t21 false)), .v (.one (.sc (.int .i64 x23))), .any, .any, .any, .any, .any, .any, .any, .any, .any, .any, .any, .any, .any, .any, .any, .any, .any, .any, .any, .any, .any, .any, .any, .any, .any, .any, .any, .any, .any, .any, .any, .any, .any, .any, .any, .any, .any, .any, .any, .any, .any, .any, .any, .any, .any, .any, .any, .any, .any, .any, .any, .any, .any, .any, .any, .any, .any, .any, .any, .any, .any, .any, .any, .any, .any, .any, .any, .any, .any, .any, .any, .any, .any, .any, .any, .any, .any, .any, .any, .any, .any, .any, .any, .any, .any, .any, .any, .any, .any, .any, .any, .any, .any, .any, .any, .any, .any, .any, .any, .any, .any, .any, .any, .any, .any], [], 0⟩ (fun e s => e = .normal ∧ s = ⟨[.any, .any, .any, .any, .any, .any, .any, .v (.one (.sc (.int .u32 (Int.tmod a0 (2147483648 : Int))))), .any, .any, .any, .any, .any, .any, .v (.one (.sc (.int .u32 t60))), .v (.one (.fs (.int .i64) t21 false)), .v (.one (.sc (.int .i64 x23))), .any, .any, .any, .any, .any, .any, .any, .any, .any, .any, .any, .any, .any, .any, .any, .any, .any, .any, .any, .any, .any, .any, .any, .any, .any, .any, .any, .any, .any, .any, .any, .any, .any, .any, .any, .any, .any, .any, .any, .any, .any, .any, .any, .any, .any, .any, .any, .any, .any, .any, .any, .any, .any, .any, .any, .any, .any, .any, .any, .any, .any, .any, .any, .any, .any, .any, .any, .any, .any, .any, .any, .any, .any, .any, .any, .any, .any, .any, .any, .any, .any, .any, .any, .any, .any, .any, .any, .any, .any, .any, .any, .any, .any, .any, .any, .any, .any, .any, .any, .any, .any, .any, .any, .any, .any], [], 0⟩) ∧ (True ∧ (True) ∧ (((True) ∧ (True) ∧ True) ∧ TripN cfg (cpath (Tryd.f4.body.getD .skip) [1, 1, 1, 1, 1, 1, 1, 1, 1, 0, 1, 0, 0]) n (halterlaw03_SetLaws.l0_S t21 a0 t60 (IntKind.wrap .i64 (x23 + (1 : Int)))) (halterlaw03_SetLaws.l0_Q t21 a0 r)))) ∨ (∃ t62 : Unit, Trip cfg (cpath (Tryd.f4.body.getD .skip) [1, 1, 1, 1, 1, 1, 1, 1, 1, 0, 1, 0, 0, 1, 0]) ⟨[.any, .any, .any, .any, .any, .any, .any, .v (.one (.sc (.int .u32 (Int.tmod a0 (2147483648 : Int))))), .any, .any, .any, .any, .any, .any, .v (.one (.sc (.int .u32 x22))), .v (.one (.fs (.int .i64) t21 false)), .v (.one (.sc (.int .i64 x23))), .any, .any, .any, .any, .any, .any, .any, .any, .any, .any, .any, .any, .any, .any, .any, .any, .any, .any, .any, .any, .any, .any, .any, .any, .any, .any, .any, .any, .any, .any, .any, .any, .any, .any, .any, .any, .any, .any, .any, .any, .any, .any, .any, .any, .any, .any, .any, .any, .any, .any, .any, .any, .any, .any, .any, .any, .any, .any, .any, .any, .any, .any, .any, .any, .any, .any, .any, .any, .any, .any, .any, .any, .any, .any, .any, .any, .any, .any, .any, .any, .any, .any, .any, .any, .any, .any, .any, .any, .any, .any, .any, .any, .any, .any, .any, .any, .any, .any, .any, .any, .any, .any, .any, .any, .any], [], 0⟩ (fun e s => e = .ret ∧ s = ⟨[.any, .any, .any, .any, .any, .any, .v (.one (.sc (.bool false))), .any, .any, .any, .any, .any, .any, .any, .any, .any, .any, .any, .any, .any, .any, .any, .any, .any, .any, .any, .any, .any, .any, .any, .any, .any, .any, .any, .any, .any, .any, .any, .any, .any, .any, .any, .any, .any, .any, .any, .any, .any, .any, .any, .any, .any, .any, .any, .any, .any, .any, .any, .any, .any, .any, .any, .any, .any, .any, .any, .any, .any, .any, .any, .any, .any, .any, .any, .any, .any, .any, .any, .any, .any, .any, .any, .any, .any, .any, .any, .any, .any, .any, .any, .any, .any, .any, .any, .any, .any, .any, .any, .any, .any, .any, .any, .any, .any, .any, .any, .any, .any, .any, .any, .any, .any, .any, .any, .any, .any, .any, .any, .any, .any, .any, .any], [], 0⟩) ∧ (halterlaw03_SetLaws.l0_Q t21 a0 r .ret ⟨[.any, .any, .any, .any, .any, .any, .v (.one (.sc (.bool false))), .any, .any, .any, .any, .any, .any, .any, .any, .any, .any, .any, .any, .any, .any, .any, .any, .any, .any, .any, .any, .any, .any, .any, .any, .any, .any, .any, .any, .any, .any, .any, .any, .any, .any, .any, .any, .any, .any, .any, .any, .any, .any, .any, .any, .any, .any, .any, .any, .any, .any, .any, .any, .any, .any, .any, .any, .any, .any, .any, .any, .any, .any, .any, .any, .any, .any, .any, .any, .any, .any, .any, .any, .any, .any, .any, .any, .any, .any, .any, .any, .any, .any, .any, .any, .any, .any, .any, .any, .any, .any, .any, .any, .any, .any, .any, .any, .any, .any, .any, .any, .any, .any, .any, .any, .any, .any, .any, .any, .any, .any, .any, .any, .any, .any, .any], [], 0⟩)))))) ∧ ((decide (x23 < (((List.length t21) : Nat) : Int))) = false → (((True) ∧ (True) ∧ True) ∧ halterlaw03_SetLaws.l0_Q t21 a0 r (.exit 0) ⟨[.any, .any, .any, .any, .any, .any, .any, .v (.one (.sc (.int .u32 (Int.tmod a0 (2147483648 : Int))))), .any, .any, .any, .any, .any, .any, .v (.one (.sc (.int .u32 x22))), .any, .any, .any, .any, .any, .any, .any, .any, .any, .any, .any, .any, .any, .any, .any, .any, .any, .any, .any, .any, .any, .any, .any, .any, .any, .any, .any, .any, .any, .any, .any, .any, .any, .any, .any, .any, .any, .any, .any, .any, .any, .any, .any, .any, .any, .any, .any, .any, .any, .any, .any, .any, .any, .any, .any, .any, .any, .any, .any, .any, .any, .any, .any, .any, .any, .any, .any, .any, .any, .any, .any, .any, .any, .any, .any, .any, .any, .any, .any, .any, .any, .any, .any, .any, .any, .any, .any, .any, .any, .any, .any, .any, .any, .any, .any, .any, .any, .any, .any, .any, .any, .any, .any, .any, .any, .any, .any], [], 0⟩)))) (by kernel_rfl) ?_)
    refine ⟨trivial, ?_⟩
    refine ⟨trivial, ?_⟩
    refine ⟨fun b40 => ?_, fun b40 => ?_⟩
    · rw [if_pos (of_decide_eq_true b40)] at h
      refine ⟨trivial, ?_⟩
      obtain ⟨t50, ht50, h⟩ := of_bind h
      refine ⟨⟨trivial, trivial⟩, ?_⟩
      rcases t50 with t60 | t62
      · dsimp only at h
        left
        refine ⟨t60, halterlaw03_SetLaws.j1_ok t21 x22 x23 a0 (.inl t60) ht50, ?_⟩
        refine ⟨trivial, ?_⟩
        refine ⟨trivial, ?_⟩
        exact ⟨⟨trivial, trivial, trivial⟩, ih t60 (IntKind.wrap .i64 (x23 + (1 : Int))) r h⟩
      · dsimp only at h
        right
        refine ⟨t62, halterlaw03_SetLaws.j1_ok t21 x22 x23 a0 (.inr t62) ht50, ?_⟩
        obtain rfl := Option.some.inj h
        exact ⟨rfl, rfl⟩
    · rw [if_neg (of_decide_eq_false b40)] at h
      obtain rfl := Option.some.inj h
      exact ⟨⟨trivial, trivial, trivial⟩, rfl, rfl⟩
def halterlaw03_SetLaws.j3 (t76 : (List Int)) (x77 : Int) (x78 : Int) (a0 : Int) : Option ((Int) ⊕ (Unit)) :=
  if x78 > (0 : Int) then
    if 0 ≤ (IntKind.wrap .i64 (x78 - (1 : Int))) ∧ (IntKind.wrap .i64 (x78 - (1 : Int))) < (((List.length t76) : Nat) : Int) then
      if 0 ≤ x78 ∧ x78 < (((List.length t76) : Nat) : Int) then
        if (List.getD t76 (Int.toNat (IntKind.wrap .i64 (x78 - (1 : Int)))) (0 : Int)) ≥ (List.getD t76 (Int.toNat x78) (0 : Int)) then
          some (.inr ())
        else
          if 0 ≤ x78 ∧ x78 < (((List.length t76) : Nat) : Int) then
            (sigset_Add.f x77 (List.getD t76 (Int.toNat x78) (0 : Int))).bind fun t110 =>
            some (.inl t110)
          else none
      else none
    else none
  else
    if 0 ≤ x78 ∧ x78 < (((List.length t76) : Nat) : Int) then
      (sigset_Add.f x77 (List.getD t76 (Int.toNat x78) (0 : Int))).bind fun t112 =>
      some (.inl t112)
    else none
def halterlaw03_SetLaws.j3_S (t76 : (List Int)) (x77 : Int) (x78 : Int) (a0 : Int) : St := ⟨[.any, .any, .any, .any, .any, .any, .any, .v (.one (.sc (.int .u32 (Int.tmod a0 (2147483648 : Int))))), .any, .any, .any, .any, .any, .any, .v (.one (.sc (.int .u32 x77))), .v (.one (.fs (.int .i64) t76 false)), .v (.one (.sc (.int .i64 x78))), .any, .any, .any, .any, .any, .any, .any, .any, .any, .any, .any, .any, .any, .any, .any, .any, .any, .any, .any, .any, .any, .any, .any, .any, .any, .any, .any, .any, .any, .any, .any, .any, .any, .any, .any, .any, .any, .any, .any, .any, .any, .any, .any, .any, .any, .any, .any, .any, .any, .any, .any, .any, .any, .any, .any, .any, .any, .any, .any, .any, .any, .any, .any, .any, .any, .any, .any, .any, .any, .any, .any, .any, .any, .any, .any, .any, .any, .any, .any, .any, .any, .any, .any, .any, .any, .any, .any, .any, .any, .any, .any, .any, .any, .any, .any, .any, .any, .any, .any, .any, .any, .any, .any, .any, .any], [], 0⟩
def halterlaw03_SetLaws.j3_Q (t76 : (List Int)) (x77 : Int) (x78 : Int) (a0 : Int) : (Int) ⊕ (Unit) → Exit → St → Prop
  | .inl t => fun e s => e = .normal ∧ s = ⟨[.any, .any, .any, .any, .any, .any, .any, .v (.one (.sc (.int .u32 (Int.tmod a0 (2147483648 : Int))))), .any, .any, .any, .any, .any, .any, .v (.one (.sc (.int .u32 t))), .v (.one (.fs (.int .i64) t76 false)), .v (.one (.sc (.int .i64 x78))), .any, .any, .any, .any, .any, .any, .any, .any, .any, .any, .any, .any, .any, .any, .any, .any, .any, .any, .any, .any, .any, .any, .any, .any, .any, .any, .any, .any, .any, .any, .any, .any, .any, .any, .any, .any, .any, .any, .any, .any, .any, .any, .any, .any, .any, .any, .any, .any, .any, .any, .any, .any, .any, .any, .any, .any, .any, .any, .any, .any, .any, .any, .any, .any, .any, .any, .any, .any, .any, .any, .any, .any, .any, .any, .any, .any, .any, .any, .any, .any, .any, .any, .any, .any, .any, .any, .any, .any, .any, .any, .any, .any, .any, .any, .any, .any, .any, .any, .any, .any, .any, .any, .any, .any, .any], [], 0⟩
  | .inr t => fun e s => e = .ret ∧ s = ⟨[.any, .any, .any, .any, .any, .any, .v (.one (.sc (.bool false))), .any, .any, .any, .any, .any, .any, .any, .any, .any, .any, .any, .any, .any, .any, .any, .any, .any, .any, .any, .any, .any, .any, .any, .any, .any, .any, .any, .any, .any, .any, .any, .any, .any, .any, .any, .any, .any, .any, .any, .any, .any, .any, .any, .any, .any, .any, .any, .any, .any, .any, .any, .any, .any, .any, .any, .any, .any, .any, .any, .any, .any, .any, .any, .any, .any, .any, .any, .any, .any, .any, .any, .any, .any, .any, .any, .any, .any, .any, .any, .any, .any, .any, .any, .any, .any, .any, .any, .any, .any, .any, .any, .any, .any, .any, .any, .any, .any, .any, .any, .any, .any, .any, .any, .any, .any, .any, .any, .any, .any, .any, .any, .any, .any, .any, .any], [], 0⟩
theorem halterlaw03_SetLaws.j3_ok (t76 : (List Int)) (x77 : Int) (x78 : Int) (a0 : Int) (r : (Int) ⊕ (Unit)) (h : halterlaw03_SetLaws.j3 t76 x77 x78 a0 = some r) : Trip cfg (cpath (Tryd.f4.body.getD .skip) [1, 1, 1, 1, 1, 1, 1, 1, 1, 0, 1, 0, 0, 1, 0]) (halterlaw03_SetLaws.j3_S t76 x77 x78 a0) (halterlaw03_SetLaws.j3_Q t76 x77 x78 a0 r) := by
  unfold halterlaw03_SetLaws.j3 at h
  refine Trip.of_run cfg_ok (k := (.emb (decide (x78 > (0 : Int))) (.dr [(0, dN), (1, dN), (2, dN), (3, dT), (4, dT), (5, dT), (6, dT), (8, dT), (9, dT), (10, dT), (7, dT), (11, dT), (12, dT), (13, d1)] (.br (.adj [] (.adj [.keep [6], .drop 0] .nil)) (.call true [] (Int) (fun t110 => sigset_Add.R t110) (fun t110 => (.adj [.keep [7, 14, 15, 16], .drop 0] .nil))))) (.dr [(0, dN), (1, dN), (2, dN), (3, dF), (4, dF), (5, dF), (6, dF), (8, dF), (9, dF), (10, dF), (7, dF), (11, dF), (12, dF), (13, d0)] (.one false (.call true [] (Int) (fun t112 => sigset_Add.R t112) (fun t112 => (.adj [.keep [7, 14, 15, 16], .drop 0] .nil))))))) (to_goal (q := (((decide (x78 > (0 : Int))) = true → (True) ∧ ((decide (x78 > (0 : Int))) = true ∧ True) ∧ ((decide (x78 > (0 : Int))) = true ∧ True) ∧ ((decide (x78 > (0 : Int))) = true ∧ True) ∧ ((decide (x78 > (0 : Int))) = true ∧ 0 ≤ (IntKind.wrap .i64 (x78 - (1 : Int))) ∧ (IntKind.wrap .i64 (x78 - (1 : Int))) < (((List.length t76) : Nat) : Int)) ∧ ((decide (x78 > (0 : Int))) = true ∧ True) ∧ ((decide (x78 > (0 : Int))) = true ∧ True) ∧ ((decide (x78 > (0 : Int))) = true ∧ 0 ≤ x78 ∧ x78 < (((List.length t76) : Nat) : Int)) ∧ ((decide (x78 > (0 : Int))) = true ∧ True) ∧ ((decide (x78 > (0 : Int))) = true ∧ True) ∧ ((decide (x78 > (0 : Int))) = true ∧ True) ∧ ((decide (x78 > (0 : Int))) = true) ∧ (((decide ((List.getD t76 (Int.toNat (IntKind.wrap .i64 (x78 - (1 : Int)))) (0 : Int)) ≥ (List.getD t76 (Int.toNat x78) (0 : Int)))) = true → (True ∧ (((True) ∧ (True) ∧ True) ∧ halterlaw03_SetLaws.j3_Q t76 x77 x78 a0 r .ret ⟨[.any, .any, .any, .any, .any, .any, .v (.one (.sc (.bool false))), .any, .any, .any, .any, .any, .any, .any, .any, .any, .any, .any, .any, .any, .any, .any, .any, .any, .any, .any, .any, .any, .any, .any, .any, .any, .any, .any, .any, .any, .any, .any, .any, .any, .any, .any, .any, .any, .any, .any, .any, .any, .any, .any, .any, .any, .any, .any, .any, .any, .any, .any, .any, .any, .any, .any, .any, .any, .any, .any, .any, .any, .any, .any, .any, .any, .any, .any, .any, .any, .any, .any, .any, .any, .any, .any, .any, .any, .any, .any, .any, .any, .any, .any, .any, .any, .any, .any, .any, .any, .any, .any, .any, .any, .any, .any, .any, .any, .any, .any, .any, .any, .any, .any, .any, .any, .any, .any, .any, .any, .any, .any, .any, .any, .any, .any], [], 0⟩))) ∧ ((decide ((List.getD t76 (Int.toNat (IntKind.wrap .i64 (x78 - (1 : Int)))) (0 : Int)) ≥ (List.getD t76 (Int.toNat x78) (0 : Int)))) = false → (0 ≤ x78 ∧ x78 < (((List.length t76) : Nat) : Int)) ∧ (True) ∧ (∃ t110 : Int, (Fun cfg 8 [.one (.sc (.int .u32 x77)), .one (.sc (.int .i64 (List.getD t76 (Int.toNat x78) (0 : Int))))] [] (sigset_Add.R t110) [] ∧ True) ∧ (((True) ∧ (True) ∧ True) ∧ halterlaw03_SetLaws.j3_Q t76 x77 x78 a0 r .normal ⟨[.any, .any, .any, .any, .any, .any, .any, .v (.one (.sc (.int .u32 (Int.tmod a0 (2147483648 : Int))))), .any, .any, .any, .any, .any, .any, .v (.one (.sc (.int .u32 t110))), .v (.one (.fs (.int .i64) t76 false)), .v (.one (.sc (.int .i64 x78))), .any, .any, .any, .any, .any, .any, .any, .any, .any, .any, .any, .any, .any, .any, .any, .any, .any, .any, .any, .any, .any, .any, .any, .any, .any, .any, .any, .any, .any, .any, .any, .any, .any, .any, .any, .any, .any, .any, .any, .any, .any, .any, .any, .any, .any, .any, .any, .any, .any, .any, .any, .any, .any, .any, .any, .any, .any, .any, .any, .any, .any, .any, .any, .any, .any, .any, .any, .any, .any, .any, .any, .any, .any, .any, .any, .any, .any, .any, .any, .any, .any, .any, .any, .any, .any, .any, .any, .any, .any, .any, .any, .any, .any, .any, .any, .any, .any, .any, .any, .any, .any, .any, .any, .any, .any], [], 0⟩))))) ∧ ((decide (x78 > (0 : Int))) = false → (True) ∧ ((decide (x78 > (0 : Int))) = false) ∧ ((decide (x78 > (0 : Int))) = false) ∧ ((decide (x78 > (0 : Int))) = false) ∧ ((decide (x78 > (0 : Int))) = false) ∧ ((decide (x78 > (0 : Int))) = false) ∧ ((decide (x78 > (0 : Int))) = false) ∧ ((decide (x78 > (0 : Int))) = false) ∧ ((decide (x78 > (0 : Int))) = false) ∧ ((decide (x78 > (0 : Int))) = false) ∧ ((decide (x78 > (0 : Int))) = false) ∧ ((decide (x78 > (0 : Int))) = false) ∧ (false = false ∧ (0 ≤ x78 ∧ x78 < (((List.length t76) : Nat) : Int)) ∧ (True) ∧ (∃ t112 : Int, (Fun cfg 8 [.one (.sc (.int .u32 x77)), .one (.sc (.int .i64 (List.getD t76 (Int.toNat x78) (0 : Int))))] [] (sigset_Add.R t112) [] ∧ True) ∧ (((True) ∧ (True) ∧ True) ∧ halterlaw03_SetLaws.j3_Q t76 x77 x78 a0 r .normal ⟨[.any, .any, .any, .any, .any, .any, .any, .v (.one (.sc (.int .u32 (Int.tmod a0 (2147483648 : Int))))), .any, .any, .any, .any, .any, .any, .v (.one (.sc (.int .u32 t112))), .v (.one (.fs (.int .i64) t76 false)), .v (.one (.sc (.int .i64 x78))), .any, .any, .any, .any, .any, .any, .any, .any, .any, .any, .any, .any, .any, .any, .any, .any, .any, .any, .any, .any, .any, .any, .any, .any, .any, .any, .any, .any, .any, .any, .any, .any, .any, .any, .any, .any, .any, .any, .any, .any, .any, .any, .any, .any, .any, .any, .any, .any, .any, .any, .any, .any, .any, .any, .any, .any, .any, .any, .any, .any, .any, .any, .any, .any, .any, .any, .any, .any, .any, .any, .any, .any, .any, .any, .any, .any, .any, .any, .any, .any, .any, .any, .any, .any, .any, .any, .any, .any, .any, .any, .any, .any, .any, .any, .any, .any, .any, .any, .any, .any, .any, .any, .any, .any, .any], [], 0⟩)))))) (by kernel_rfl) ?_)
  refine ⟨fun b106 => ?_, fun b106 => ?_⟩
  · rw [if_pos (of_decide_eq_true b106)] at h
    obtain ⟨g107, h⟩ := of_guard h
    obtain ⟨g108, h⟩ := of_guard h
    refine ⟨trivial, ⟨b106, trivial⟩, ⟨b106, trivial⟩, ⟨b106, trivial⟩, ⟨b106, g107⟩, ⟨b106, trivial⟩, ⟨b106, trivial⟩, ⟨b106, g108⟩, ⟨b106, trivial⟩, ⟨b106, trivial⟩, ⟨b106, trivial⟩, b106, ?_⟩
    refine ⟨fun b109 => ?_, fun b109 => ?_⟩
    · rw [if_pos (of_decide_eq_true b109)] at h
      refine ⟨trivial, ?_⟩
      obtain rfl := Option.some.inj h
      exact ⟨⟨trivial, trivial, trivial⟩, rfl, rfl⟩
    · rw [if_neg (of_decide_eq_false b109)] at h
      obtain ⟨g111, h⟩ := of_guard h
      refine ⟨g111, ?_⟩
      refine ⟨trivial, ?_⟩
      obtain ⟨t110, ht110, h⟩ := of_bind h
      refine ⟨t110, ⟨sigset_Add.fun_ ht110, trivial⟩, ?_⟩
      obtain rfl := Option.some.inj h
      exact ⟨⟨trivial, trivial, trivial⟩, rfl, rfl⟩
  · rw [if_neg (of_decide_eq_false b106)] at h
    refine ⟨trivial, b106, b106, b106, b106, b106, b106, b106, b106, b106, b106, b106, ?_⟩
    refine ⟨rfl, ?_⟩
    obtain ⟨g113, h⟩ := of_guard h
    refine ⟨g113, ?_⟩
    refine ⟨trivial, ?_⟩
    obtain ⟨t112, ht112, h⟩ := of_bind h
    refine ⟨t112, ⟨sigset_Add.fun_ ht112, trivial⟩, ?_⟩
    obtain rfl := Option.some.inj h
    exact ⟨⟨trivial, trivial, trivial⟩, rfl, rfl⟩
def halterlaw03_SetLaws.l2 (t76 : (List Int)) (a0 : Int) : Nat → Int → Int → Option ((Int) ⊕ (Unit))
  | 0, _, _ => none
  | n + 1, x77, x78 =>
    if x78 < (((List.length t76) : Nat) : Int) then
      (halterlaw03_SetLaws.j3 t76 x77 x78 a0).bind fun t105 =>
      match t105 with
      | .inl t115 =>
        halterlaw03_SetLaws.l2 t76 a0 n t115 (IntKind.wrap .i64 (x78 + (1 : Int)))
      | .inr t117 =>
        some (.inr ())
    else
      some (.inl x77)
def halterlaw03_SetLaws.l2_S (t76 : (List Int)) (a0 : Int) (x77 : Int) (x78 : Int) : St := ⟨[.any, .any, .any, .any, .any, .any, .any, .v (.one (.sc (.int .u32 (Int.tmod a0 (2147483648 : Int))))), .any, .any, .any, .any, .any, .any, .v (.one (.sc (.int .u32 x77))), .v (.one (.fs (.int .i64) t76 false)), .v (.one (.sc (.int .i64 x78))), .any, .any, .any, .any, .any, .any, .any, .any, .any, .any, .any, .any, .any, .any, .any, .any, .any, .any, .any, .any, .any, .any, .any, .any, .any, .any, .any, .any, .any, .any, .any, .any, .any, .any, .any, .any, .any, .any, .any, .any, .any, .any, .any, .any, .any, .any, .any, .any, .any, .any, .any, .any, .any, .any, .any, .any, .any, .any, .any, .any, .any, .any, .any, .any, .any, .any, .any, .any, .any, .any, .any, .any, .any, .any, .any, .any, .any, .any, .any, .any, .any, .any, .any, .any, .any, .any, .any, .any, .any, .any, .any, .any, .any, .any, .any, .any, .any, .any, .any, .any, .any, .any, .any, .any, .any], [], 0⟩
def halterlaw03_SetLaws.l2_Q (t76 : (List Int)) (a0 : Int) : (Int) ⊕ (Unit) → Exit → St → Prop
  | .inl t => fun e s => e = (.exit 0) ∧ s = ⟨[.any, .any, .any, .any, .any, .any, .any, .v (.one (.sc (.int .u32 (Int.tmod a0 (2147483648 : Int))))), .any, .any, .any, .any, .any, .any, .v (.one (.sc (.int .u32 t))), .any, .any, .any, .any, .any, .any, .any, .any, .any, .any, .any, .any, .any, .any, .any, .any, .any, .any, .any, .any, .any, .any, .any, .any, .any, .any, .any, .any, .any, .any, .any, .any, .any, .any, .any, .any, .any, .any, .any, .any, .any, .any, .any, .any, .any, .any, .any, .any, .any, .any, .any, .any, .any, .any, .any, .any, .any, .any, .any, .any, .any, .any, .any, .any, .any, .any, .any, .any, .any, .any, .any, .any, .any, .any, .any, .any, .any, .any, .any, .any, .any, .any, .any, .any, .any, .any, .any, .any, .any, .any, .any, .any, .any, .any, .any, .any, .any, .any, .any, .any, .any, .any, .any, .any, .any, .any, .any], [], 0⟩
  | .inr t => fun e s => e = .ret ∧ s = ⟨[.any, .any, .any, .any, .any, .any, .v (.one (.sc (.bool false))), .any, .any, .any, .any, .any, .any, .any, .any, .any, .any, .any, .any, .any, .any, .any, .any, .any, .any, .any, .any, .any, .any, .any, .any, .any, .any, .any, .any, .any, .any, .any, .any, .any, .any, .any, .any, .any, .any, .any, .any, .any, .any, .any, .any, .any, .any, .any, .any, .any, .any, .any, .any, .any, .any, .any, .any, .any, .any, .any, .any, .any, .any, .any, .any, .any, .any, .any, .any, .any, .any, .any, .any, .any, .any, .any, .any, .any, .any, .any, .any, .any, .any, .any, .any, .any, .any, .any, .any, .any, .any, .any, .any, .any, .any, .any, .any, .any, .any, .any, .any, .any, .any, .any, .any, .any, .any, .any, .any, .any, .any, .any, .any, .any, .any, .any], [], 0⟩
theorem halterlaw03_SetLaws.l2_ok (t76 : (List Int)) (a0 : Int) : ∀ (n : Nat) (x77 : Int) (x78 : Int) (r : (Int) ⊕ (Unit)), halterlaw03_SetLaws.l2 t76 a0 n x77 x78 = some r → TripN cfg (cpath (Tryd.f4.body.getD .skip) [1, 1, 1, 1, 1, 1, 1, 1, 1, 0, 1, 0, 0]) n (halterlaw03_SetLaws.l2_S t76 a0 x77 x78) (halterlaw03_SetLaws.l2_Q t76 a0 r) := by
  intro n
  induction n with
  | zero => intro x77 x78 r h; cases h
  | succ n ih =>
    intro x77 x78 r h
    rw [halterlaw03_SetLaws.l2] at h
    refine TripN.of_run cfg_ok (k := (.br (.adj [] (.adj [.keep [7, 14, 15, 16]] (.altb (.blk (Int) (fun _ => .normal) (fun t115 => ⟨[.any, .any, .any, .any, .any, .any, .any, .v (.one (.sc (.int .u32 (Int.tmod a0 (2147483648 : Int))))), .any, .any, .any, .any, .any, .any, .v (.one (.sc (.int .u32 t115))), .v (.one (.fs (.int .i64) t76 false)), .v (.one (.sc (.int .i64 x78))), .any, .any, .any, .any, .any, .any, .any, .any, .any, .any, .any, .any, .any, .any, .any, .any, .any, .any, .any, .any, .any, .any, .any, .any, .any, .any, .any, .any, .any, .any, .any, .any, .any, .any, .any, .any, .any, .any, .any, .any, .any, .any, .any, .any, .any, .any, .any, .any, .any, .any, .any, .any, .any, .any, .any, .any, .any, .any, .any, .any, .any, .any, .any, .any, .any, .any, .any, .any, .any, .any, .any, .any, .any, .any, .any, .any, .any, .any, .any, .any, .any, .any, .any, .any, .any, .any, .any, .any, .any, .any, .any, .any, .any, .any, .any, .any, .any, .any, .any, .any, .any, .any, .any, .any, .any], [], 0⟩) (fun t115 => (.adj [] (.adj [.keep [7, 14, 15, 16], .drop 0] .nil)))) (.blk (Unit) (fun _ => .ret) (fun t117 => ⟨[.any, .any, .any, .any, .any, .any, .v (.one (.sc (.bool false))), .any, .any, .any, .any, .any, .any, .any, .any, .any, .any, .any, .any, .any, .any, .any, .any, .any, .any, .any, .any, .any, .any, .any, .any, .any, .any, .any, .any, .any, .any, .any, .any, .any, .any, .any, .any, .any, .any, .any, .any, .any, .any, .any, .any, .any, .any, .any, .any, .any, .any, .any, .any, .any, .any, .any, .any, .any, .any, .any, .any, .any, .any, .any, .any, .any, .any, .any, .any, .any, .any, .any, .any, .any, .any, .any, .any, .any, .any, .any, .any, .any, .any, .any, .any, .any, .any, .any, .any, .any, .any, .any, .any, .any, .any, .any, .any, .any, .any, .any, .any, .any, .any, .any, .any, .any, .any, .any, .any, .any, .any, .any, .any, .any, .any, .any], [], 0⟩) (fun t117 => .nil))))) (.adj [.keep [7, 14], .drop 0] .nil))) (to_goal (q := (True) ∧ (True) ∧ (((decide (x78 < (((List.length t76) : Nat) : Int))) = true → (True ∧ (((True) ∧ True) ∧ ((∃ t115 : Int, Trip cfg (cpath (Tryd.f4.body.getD .skip) [1, 1, 1, 1, 1, 1, 1, 1, 1, 0, 1, 0, 0, 1, 0]) ⟨[.any, .any, .any, .any, .any, .any, .any, .v (.one (.sc (.int .u32 (Int.tmod a0 (2147483648 : Int))))), .any, .any, .any, .any, .any, .any, .v (.one (.sc (.int .u32 x77))), .v (.one (.fs (.int .i64) t76 false)), .v (.one (.sc (.int .i64 x78))), .any, .any, .any, .any, .any, .any, .any, .any, .any, .any, .any, .any, .any, .any, .any, .any, .any, .any, .any, .any, .any, .any, .any, .any, .any, .any, .any, .any, .any, .any, .any, .any, .any, .any, .any, .any, .any, .any, .any, .any, .any, .any, .any, .any, .any, .any, .any, .any, .any, .any, .any, .any, .any, .any, .any, .any, .any, .any, .any, .any, .any, .any, .any, .any, .any, .any, .any, .any, .any, .any, .any, .any, .any, .any, .any, .any, .any, .any, .any, .any, .any, .any, .any, .any, .any, .any, .any, .any, .any, .any, .any, .any, .any, .any, .any, .any, .any, .any, .any, .any, .any, .any, .any, .any, .any], [], 0⟩ (fun e s => e = .normal ∧ s = ⟨[.any, .any, .any, .any, .any, .any, .any, .v (.one (.sc (.int .u32 (Int.tmod a0 (2147483648 : Int))))), .any, .any, .any, .any, .any, .any, .v (.one (.sc (.int .u32 t115))), .v (.one (.fs (.int .i64) t76 false)), .v (.one (.sc (.int .i64 x78))), .any, .any, .any, .any, .any, .any, .any, .any, .any, .any, .any, .any, .any, .any, .any, .any, .any, .any, .any, .any, .any, .any, .any, .any, .any, .any, .any, .any, .any, .any, .any, .any, .any, .any, .any, .any, .any, .any, .any, .any, .any, .any, .any, .any, .any, .any, .any, .any, .any, .any, .any, .any, .any, .any, .any, .any, .any, .any, .any, .any, .any, .any, .any, .any, .any, .any, .any, .any, .any, .any, .any, .any, .any, .any, .any, .any, .any, .any, .any, .any, .any, .any, .any, .any, .any, .any, .any, .any, .any, .any, .any, .any, .any, .any, .any, .any, .any, .any, .any, .any, .any, .any, .any, .any, .any], [], 0⟩) ∧ (True ∧ (True) ∧ (((True) ∧ (True) ∧ True) ∧ TripN cfg (cpath (Tryd.f4.body.getD .skip) [1, 1, 1, 1, 1, 1, 1, 1, 1, 0, 1, 0, 0]) n (halterlaw03_SetLaws.l2_S t76 a0 t115 (IntKind.wrap .i64 (x78 + (1 : Int)))) (halterlaw03_SetLaws.l2_Q t76 a0 r)))) ∨ (∃ t117 : Unit, Trip cfg (cpath (Tryd.f4.body.getD .skip) [1, 1, 1, 1, 1, 1, 1, 1, 1, 0, 1, 0, 0, 1, 0]) ⟨[.any, .any, .any, .any, .any, .any, .any, .v (.one (.sc (.int .u32 (Int.tmod a0 (2147483648 : Int))))), .any, .any, .any, .any, .any, .any, .v (.one (.sc (.int .u32 x77))), .v (.one (.fs (.int .i64) t76 false)), .v (.one (.sc (.int .i64 x78))), .any, .any, .any, .any, .any, .any, .any, .any, .any, .any, .any, .any, .any, .any, .any, .any, .any, .any, .any, .any, .any, .any, .any, .any, .any, .any, .any, .any, .any, .any, .any, .any, .any, .any, .any, .any, .any, .any, .any, .any, .any, .any, .any, .any, .any, .any, .any, .any, .any, .any, .any, .any, .any, .any, .any, .any, .any, .any, .any, .any, .any, .any, .any, .any, .any, .any, .any, .any, .any, .any, .any, .any, .any, .any, .any, .any, .any, .any, .any, .any, .any, .any, .any, .any, .any, .any, .any, .any, .any, .any, .any, .any, .any, .any, .any, .any, .any, .any, .any, .any, .any, .any, .any, .any, .any], [], 0⟩ (fun e s => e = .ret ∧ s = ⟨[.any, .any, .any, .any, .any, .any, .v (.one (.sc (.bool false))), .any, .any, .any, .any, .any, .any, .any, .any, .any, .any, .any, .any, .any, .any, .any, .any, .any, .any, .any, .any, .any, .any, .any, .any, .any, .any, .any, .any, .any, .any, .any, .any, .any, .any, .any, .any, .any, .any, .any, .any, .any, .any, .any, .any, .any, .any, .any, .any, .any, .any, .any, .any, .any, .any, .any, .any, .any, .any, .any, .any, .any, .any, .any, .any, .any, .any, .any, .any, .any, .any, .any, .any, .any, .any, .any, .any, .any, .any, .any, .any, .any, .any, .any, .any, .any, .any, .any, .any, .any, .any, .any, .any, .any, .any, .any, .any, .any, .any, .any, .any, .any, .any, .any, .any, .any, .any, .any, .any, .any, .any, .any, .any, .any, .any, .any], [], 0⟩) ∧ (halterlaw03_SetLaws.l2_Q t76 a0 r .ret ⟨[.any, .any, .any, .any, .any, .any, .v (.one (.sc (.bool false))), .any, .any, .any, .any, .any, .any, .any, .any, .any, .any, .any, .any, .any, .any, .any, .any, .any, .any, .any, .any, .any, .any, .any, .any, .any, .any, .any, .any, .any, .any, .any, .any, .any, .any, .any, .any, .any, .any, .any, .any, .any, .any, .any, .any, .any, .any, .any, .any, .any, .any, .any, .any, .any, .any, .any, .any, .any, .any, .any, .any, .any, .any, .any, .any, .any, .any, .any, .any, .any, .any, .any, .any, .any, .any, .any, .any, .any, .any, .any, .any, .any, .any, .any, .any, .any, .any, .any, .any, .any, .any, .any, .any, .any, .any, .any, .any, .any, .any, .any, .any, .any, .any, .any, .any, .any, .any, .any, .any, .any, .any, .any, .any, .any, .any, .any], [], 0⟩)))))) ∧ ((decide (x78 < (((List.length t76) : Nat) : Int))) = false → (((True) ∧ (True) ∧ True) ∧ halterlaw03_SetLaws.l2_Q t76 a0 r (.exit 0) ⟨[.any, .any, .any, .any, .any, .any, .any, .v (.one (.sc (.int .u32 (Int.tmod a0 (2147483648 : Int))))), .any, .any, .any, .any, .any, .any, .v (.one (.sc (.int .u32 x77))), .any, .any, .any, .any, .any, .any, .any, .any, .any, .any, .any, .any, .any, .any, .any, .any, .any, .any, .any, .any, .any, .any, .any, .any, .any, .any, .any, .any, .any, .any, .any, .any, .any, .any, .any, .any, .any, .any, .any, .any, .any, .any, .any, .any, .any, .any, .any, .any, .any, .any, .any, .any, .any, .any, .any, .any, .any, .any, .any, .any, .any, .any, .any, .any, .any, .any, .any, .any, .any, .any, .any, .any, .any, .any, .any, .any, .any, .any, .any, .any, .any, .any, .any, .any, .any, .any, .any, .any, .any, .any, .any, .any, .any, .any, .any, .any, .any, .any, .any, .any, .any, .any, .any, .any, .any, .any, .any], [], 0⟩)))) (by kernel_rfl) ?_)
    refine ⟨trivial, ?_⟩
    refine ⟨trivial, ?_⟩
    refine ⟨fun b95 => ?_, fun b95 => ?_⟩
    · rw [if_pos (of_decide_eq_true b95)] at h
      refine ⟨trivial, ?_⟩
      obtain ⟨t105, ht105, h⟩ := of_bind h
      refine ⟨⟨trivial, trivial⟩, ?_⟩
      rcases t105 with t115 | t117
      · dsimp only at h
        left
        refine ⟨t115, halterlaw03_SetLaws.j3_ok t76 x77 x78 a0 (.inl t115) ht105, ?_⟩
        refine ⟨trivial, ?_⟩
        refine ⟨trivial, ?_⟩
        exact ⟨⟨trivial, trivial, trivial⟩, ih t115 (IntKind.wrap .i64 (x78 + (1 : Int))) r h⟩
      · dsimp only at h
        right
        refine ⟨t117, halterlaw03_SetLaws.j3_ok t76 x77 x78 a0 (.inr t117) ht105, ?_⟩
        obtain rfl := Option.some.inj h
        exact ⟨rfl, rfl⟩
    · rw [if_neg (of_decide_eq_false b95)] at h
      obtain rfl := Option.some.inj h
      exact ⟨⟨trivial, trivial, trivial⟩, rfl, rfl⟩
def halterlaw03_SetLaws.f (a0 : Int) (a1 : Int) (a2 : Int) : Option Bool :=
  (sigset_Add.f (Int.tmod a0 (2147483648 : Int)) (IntKind.wrap .i64 ((1 : Int) + (IntKind.wrap .i64 ((Int.tmod (IntKind.wrap .u64 (a1)) (31 : Int))))))).bind fun t1 =>
  (sigset_Del.f (Int.tmod a0 (2147483648 : Int)) (IntKind.wrap .i64 ((1 : Int) + (IntKind.wrap .i64 ((Int.tmod (IntKind.wrap .u64 (a1)) (31 : Int))))))).bind fun t2 =>
  (sigset_Has.f t1 (IntKind.wrap .i64 ((1 : Int) + (IntKind.wrap .i64 ((Int.tmod (IntKind.wrap .u64 (a1)) (31 : Int))))))).bind fun t3 =>
  if ¬ (t3 = true) then
    some false
  else
    (sigset_Has.f t2 (IntKind.wrap .i64 ((1 : Int) + (IntKind.wrap .i64 ((Int.tmod (IntKind.wrap .u64 (a1)) (31 : Int))))))).bind fun t5 =>
    if t5 = true then
      some false
    else
      if ¬ (IntKind.wrap .i64 ((1 : Int) + (IntKind.wrap .i64 ((Int.tmod (IntKind.wrap .u64 (a2)) (31 : Int)))))) = (IntKind.wrap .i64 ((1 : Int) + (IntKind.wrap .i64 ((Int.tmod (IntKind.wrap .u64 (a1)) (31 : Int)))))) then
        (sigset_Has.f t1 (IntKind.wrap .i64 ((1 : Int) + (IntKind.wrap .i64 ((Int.tmod (IntKind.wrap .u64 (a2)) (31 : Int))))))).bind fun t8 =>
        (sigset_Has.f (Int.tmod a0 (2147483648 : Int)) (IntKind.wrap .i64 ((1 : Int) + (IntKind.wrap .i64 ((Int.tmod (IntKind.wrap .u64 (a2)) (31 : Int))))))).bind fun t9 =>
        if ¬ (t8 = t9) then
          some false
        else
          (sigset_Has.f t2 (IntKind.wrap .i64 ((1 : Int) + (IntKind.wrap .i64 ((Int.tmod (IntKind.wrap .u64 (a2)) (31 : Int))))))).bind fun t11 =>
          (sigset_Has.f (Int.tmod a0 (2147483648 : Int)) (IntKind.wrap .i64 ((1 : Int) + (IntKind.wrap .i64 ((Int.tmod (IntKind.wrap .u64 (a2)) (31 : Int))))))).bind fun t12 =>
          if ¬ (t11 = t12) then
            some false
          else
            (sigset_Text.f (Int.tmod a0 (2147483648 : Int))).bind fun t14 =>
            (sigset_Parse.f t14).bind fun t15 =>
            if ¬ (t15.2 = none) then
              some false
            else
              if ¬ t15.1 = (Int.tmod a0 (2147483648 : Int)) then
                some false
              else
                (sigset_Count.f t1).bind fun t18 =>
                (sigset_Count.f t2).bind fun t19 =>
                if ¬ t18 = (IntKind.wrap .i64 (t19 + (1 : Int))) then
                  some false
                else
                  (sigset_List.f (Int.tmod a0 (2147483648 : Int))).bind fun t21 =>
                  (halterlaw03_SetLaws.l0 t21 a0 FUEL (0 : Int) (0 : Int)).bind fun t39 =>
                  match t39 with
                  | .inl t64 =>
                    if t64 = (Int.tmod a0 (2147483648 : Int)) then
                      halterlaw03_sure.f.bind fun t67 =>
                      some t67
                    else
                      some false
                  | .inr t68 =>
                    some false
      else
        (sigset_Text.f (Int.tmod a0 (2147483648 : Int))).bind fun t69 =>
        (sigset_Parse.f t69).bind fun t70 =>
        if ¬ (t70.2 = none) then
          some false
        else
          if ¬ t70.1 = (Int.tmod a0 (2147483648 : Int)) then
            some false
          else
            (sigset_Count.f t1).bind fun t73 =>
            (sigset_Count.f t2).bind fun t74 =>
            if ¬ t73 = (IntKind.wrap .i64 (t74 + (1 : Int))) then
              some false
            else
              (sigset_List.f (Int.tmod a0 (2147483648 : Int))).bind fun t76 =>
              (halterlaw03_SetLaws.l2 t76 a0 FUEL (0 : Int) (0 : Int)).bind fun t94 =>
              match t94 with
              | .inl t119 =>
                if t119 = (Int.tmod a0 (2147483648 : Int)) then
                  halterlaw03_sure.f.bind fun t122 =>
                  some t122
                else
                  some false
              | .inr t123 =>
                some false
def halterlaw03_SetLaws.R (r : Bool) : Tm := .v (.one (.sc (.bool r)))
end Go.Proofs.YtndjiebeihcbgaaDoorGSetLaws
