/- Printed by gen.py: what functions of the program compute, in plain Lean, and that they do. -/
import Derived.Test.YtlkhfagmpoibaaaDoorE15
import Derived.Test.YtlkhfagmpoibaaaDoorN
set_option linter.unusedVariables false
set_option maxRecDepth 100000
set_option maxHeartbeats 4000000
namespace Go.Proofs.YtlkhfagmpoibaaaDoorGPipeSteps
open Go Go.Proofs.YtlkhfagmpoibaaaDoorE
def tiL : List (Nat × TI) := [
  (3, ⟨1, 8, false, .int .i64, [.c (.sc (.int .i64 (0 : Int)))], some (.int .i64)⟩),
  (4, ⟨1, 1, false, .bool, [.c (.sc (.bool false))], some .bool⟩),
  (5, ⟨1, 1, false, .int .u8, [.c (.sc (.int .u8 (0 : Int)))], some (.int .u8)⟩),
  (9, ⟨1, 16, false, .str, [.c (.sc (.string ByteArray.empty))], some .str⟩),
  (23, ⟨1, 24, false, (.slice 5), [.c (.sc (.slice none 0 0))], some (.sl (.int .u8))⟩),
  (25, ⟨3, 40, true, (.struct [(0, 23), (1, 3), (2, 3)]), [.c (.sc (.slice none 0 0)), .c (.sc (.int .i64 (0 : Int))), .c (.sc (.int .i64 (0 : Int)))], some (.pair (.sl (.int .u8)) (.pair (.int .i64) (.int .i64)))⟩),
  (27, ⟨1, 16, false, .iface, [.c (.err none)], none⟩),
  (40, ⟨3, 40, true, (.struct [(0, 23), (1, 3), (2, 3)]), [.c (.sc (.slice none 0 0)), .c (.sc (.int .i64 (0 : Int))), .c (.sc (.int .i64 (0 : Int)))], some (.pair (.sl (.int .u8)) (.pair (.int .i64) (.int .i64)))⟩),
  (53, ⟨1, 8, false, .int .i64, [.c (.sc (.int .i64 (0 : Int)))], some (.int .i64)⟩),
  (58, ⟨1, 24, false, (.slice 23), [.c (.sc (.slice none 0 0))], some (.sl (.sl (.int .u8)))⟩)]
def tabs : List (Nat × IntKind × List Int) := []
noncomputable def cfg : Cfg := ⟨Tryd.prog, 53, [(⟨0, 0, none⟩, .iface 73 (.agg #[.pointer (some ⟨1, 27, none⟩)]))] ++ tabs.flatMap tabG, tiL, [], tabs⟩
theorem cfg_ok : COk cfg := by
  refine ⟨fun p hp => ?_, by kernel_rfl, fun p hp => ?_, fun t ht => ?_, fun x hx y hy => List.mem_append_right _ (List.mem_flatMap.2 ⟨x, hx, hy⟩)⟩
  · simp only [cfg, tiL, List.mem_cons, List.not_mem_nil, or_false] at hp
    rcases hp with rfl | rfl | rfl | rfl | rfl | rfl | rfl | rfl | rfl | rfl <;> exact ⟨by kernel_rfl, by kernel_rfl, by kernel_rfl, by kernel_rfl, by kernel_rfl, by kernel_rfl⟩
  · simp only [cfg, tiL, List.mem_cons, List.not_mem_nil, or_false] at hp
    rcases hp with rfl | rfl | rfl | rfl | rfl | rfl | rfl | rfl | rfl | rfl <;> intro fs hfs bl hbl
    · cases hfs
    · cases hfs
    · cases hfs
    · cases hfs
    · cases hfs
    · cases hfs
      have e : fieldsZ cfg.L 0 [(0, 23), (1, 3), (2, 3)] = some [[.c (.sc (.slice none 0 0))], [.c (.sc (.int .i64 (0 : Int)))], [.c (.sc (.int .i64 (0 : Int)))]] := by kernel_rfl
      rw [e] at hbl
      cases hbl
      exact (by kernel_rfl : encPs (List.flatten [[.c (.sc (.slice none 0 0))], [.c (.sc (.int .i64 (0 : Int)))], [.c (.sc (.int .i64 (0 : Int)))]]) = encPs [.c (.sc (.slice none 0 0)), .c (.sc (.int .i64 (0 : Int))), .c (.sc (.int .i64 (0 : Int)))])
    · cases hfs
    · cases hfs
      have e : fieldsZ cfg.L 0 [(0, 23), (1, 3), (2, 3)] = some [[.c (.sc (.slice none 0 0))], [.c (.sc (.int .i64 (0 : Int)))], [.c (.sc (.int .i64 (0 : Int)))]] := by kernel_rfl
      rw [e] at hbl
      cases hbl
      exact (by kernel_rfl : encPs (List.flatten [[.c (.sc (.slice none 0 0))], [.c (.sc (.int .i64 (0 : Int)))], [.c (.sc (.int .i64 (0 : Int)))]]) = encPs [.c (.sc (.slice none 0 0)), .c (.sc (.int .i64 (0 : Int))), .c (.sc (.int .i64 (0 : Int)))])
    · cases hfs
    · cases hfs
  · cases ht
def fin : Scr → List Adj
  | .adj l _ => l
  | _ => []
abbrev TY0 : Type := (List Int) × (List Int) × Int × Int × (Option Int)
abbrev TY1 : Type := Int × (List Int) × Int × Int × (Option Int)
/-! the error's number -/
def num.f (a0 : Option Int) : Option Int := some (a0.getD 0)
def num.R (r : Int) : Tm := .v (.one (.sc (.int .i64 r)))
theorem num.fun_ {a0 : Option Int} {r : Int} (h : num.f a0 = some r) : Fun cfg 8 [.one (.err a0)] [] (num.R r) [] := by
  refine Fun.of_below (f := 8) (fn := Tryd.f8) Tryd.func8 rfl (by kernel_rfl) (r := .int .i64 r) (fun X => ⟨⟨rfl, rfl⟩, rfl⟩) fun X vs hE hvs hG => ?_
  obtain ⟨v, us, rfl, hv, rfl⟩ := hvs
  have hv : v = errV X.E a0 := hv.1
  have he : errV cfg.E a0 = YtlkhfagmpoibaaaDoorN.errW a0 := by cases a0 <;> rfl
  rw [hv, hE, he]
  exact YtlkhfagmpoibaaaDoorN.num.calls a0 r X.w (hG _ (List.mem_append_left _ (List.mem_cons_self ..))) h
/-! halter/pipe.Check -/
def pipe_Check.f (a0 : (List Int)) (a1 : Int) (a2 : Int) : Option (Option Int) :=
  if (((List.length a0) : Nat) : Int) > (64 : Int) then
    some (some (22 : Int))
  else
    if a1 < (0 : Int) then
      some (some (22 : Int))
    else
      if a1 > (1048576 : Int) then
        some (some (22 : Int))
      else
        if a2 < (0 : Int) then
          some (some (22 : Int))
        else
          if a2 > (1048576 : Int) then
            some (some (22 : Int))
          else
            some none
def pipe_Check.R (r : (Option Int)) : Tm := .v (.one (.err r))
theorem pipe_Check.fun_ {a0 : (List Int)} {a1 : Int} {a2 : Int} {r : (Option Int)} (h : pipe_Check.f a0 a1 a2 = some r) : Fun cfg 16 [.agg [.c (.fs (.int .u8) a0 false), .c (.sc (.int .i64 a1)), .c (.sc (.int .i64 a2))]] [] (pipe_Check.R r) [] := by
  unfold pipe_Check.f at h
  refine fun_of_run cfg_ok (f := 16) (fn := Tryd.f16) Tryd.func16 rfl (by kernel_rfl) (rs := [.tmp 2]) rfl (nt := 28) rfl (l := fin) (k := (.br (.one true (.one true (.one true (.one true (.one true (.one true (.one true (.one true (.one true (.one true (.one true (.one true (.one true (.one true (.one true (.one true (.adj [] (.adj [] (.adj [.drop 0] .nil))))))))))))))))))) (.one false (.one false (.one false (.br (.one true (.one true (.one true (.one true (.one true (.one true (.one true (.one true (.one true (.one true (.one true (.one true (.adj [] (.adj [] (.adj [.drop 0] .nil))))))))))))))) (.one false (.one false (.one false (.br (.one true (.one true (.one true (.one true (.one true (.one true (.one true (.one true (.adj [] (.adj [] (.adj [.drop 0] .nil))))))))))) (.one false (.one false (.one false (.br (.one true (.one true (.one true (.one true (.adj [] (.adj [] (.adj [.drop 0] .nil))))))) (.one false (.one false (.one false (.br (.adj [] (.adj [] (.adj [.drop 0] .nil))) (.adj [] (.adj [] (.adj [] (.adj [.drop 0] .nil)))))))))))))))))))))) (to_goal (q := (True) ∧ (True) ∧ (True) ∧ (((decide ((((List.length a0) : Nat) : Int) > (64 : Int))) = false → ((decide ((((List.length a0) : Nat) : Int) > (64 : Int))) = false ∧ (True) ∧ ((decide ((((List.length a0) : Nat) : Int) > (64 : Int))) = false ∧ (True) ∧ ((decide ((((List.length a0) : Nat) : Int) > (64 : Int))) = false ∧ (((decide (a1 < (0 : Int))) = false → ((decide (a1 < (0 : Int))) = false ∧ (True) ∧ ((decide (a1 < (0 : Int))) = false ∧ (True) ∧ ((decide (a1 < (0 : Int))) = false ∧ (((decide (a1 > (1048576 : Int))) = false → ((decide (a1 > (1048576 : Int))) = false ∧ (True) ∧ ((decide (a1 > (1048576 : Int))) = false ∧ (True) ∧ ((decide (a1 > (1048576 : Int))) = false ∧ (((decide (a2 < (0 : Int))) = false → ((decide (a2 < (0 : Int))) = false ∧ (True) ∧ ((decide (a2 < (0 : Int))) = false ∧ (True) ∧ ((decide (a2 < (0 : Int))) = false ∧ (((decide (a2 > (1048576 : Int))) = true → (True ∧ (True ∧ ((True) ∧ ((True) ∧ True) ∧ (.v (.one (.err (some (22 : Int)))) : Tm) = pipe_Check.R r ∧ ([] : List Box) = [])))) ∧ ((decide (a2 > (1048576 : Int))) = false → (True ∧ (True ∧ (True ∧ ((True) ∧ ((True) ∧ True) ∧ (.v (.one (.err none)) : Tm) = pipe_Check.R r ∧ ([] : List Box) = [])))))))))) ∧ ((decide (a2 < (0 : Int))) = true → ((decide (a2 < (0 : Int))) = true ∧ ((decide (a2 < (0 : Int))) = true ∧ ((decide (a2 < (0 : Int))) = true ∧ (true = true ∧ (True ∧ (True ∧ ((True) ∧ ((True) ∧ True) ∧ (.v (.one (.err (some (22 : Int)))) : Tm) = pipe_Check.R r ∧ ([] : List Box) = []))))))))))))) ∧ ((decide (a1 > (1048576 : Int))) = true → ((decide (a1 > (1048576 : Int))) = true ∧ ((decide (a1 > (1048576 : Int))) = true ∧ ((decide (a1 > (1048576 : Int))) = true ∧ (true = true ∧ (true = true ∧ (true = true ∧ (true = true ∧ (true = true ∧ (True ∧ (True ∧ ((True) ∧ ((True) ∧ True) ∧ (.v (.one (.err (some (22 : Int)))) : Tm) = pipe_Check.R r ∧ ([] : List Box) = []))))))))))))))))) ∧ ((decide (a1 < (0 : Int))) = true → ((decide (a1 < (0 : Int))) = true ∧ ((decide (a1 < (0 : Int))) = true ∧ ((decide (a1 < (0 : Int))) = true ∧ (true = true ∧ (true = true ∧ (true = true ∧ (true = true ∧ (true = true ∧ (true = true ∧ (true = true ∧ (true = true ∧ (true = true ∧ (True ∧ (True ∧ ((True) ∧ ((True) ∧ True) ∧ (.v (.one (.err (some (22 : Int)))) : Tm) = pipe_Check.R r ∧ ([] : List Box) = []))))))))))))))))))))) ∧ ((decide ((((List.length a0) : Nat) : Int) > (64 : Int))) = true → ((decide ((((List.length a0) : Nat) : Int) > (64 : Int))) = true ∧ ((decide ((((List.length a0) : Nat) : Int) > (64 : Int))) = true ∧ ((decide ((((List.length a0) : Nat) : Int) > (64 : Int))) = true ∧ (true = true ∧ (true = true ∧ (true = true ∧ (true = true ∧ (true = true ∧ (true = true ∧ (true = true ∧ (true = true ∧ (true = true ∧ (true = true ∧ (true = true ∧ (true = true ∧ (true = true ∧ (True ∧ (True ∧ ((True) ∧ ((True) ∧ True) ∧ (.v (.one (.err (some (22 : Int)))) : Tm) = pipe_Check.R r ∧ ([] : List Box) = [])))))))))))))))))))))) (by kernel_rfl) ?_)
  refine ⟨trivial, ?_⟩
  refine ⟨trivial, ?_⟩
  refine ⟨trivial, ?_⟩
  refine ⟨fun b1 => ?_, fun b1 => ?_⟩
  · rw [if_neg (of_decide_eq_false b1)] at h
    refine ⟨b1, ?_⟩
    refine ⟨trivial, ?_⟩
    refine ⟨b1, ?_⟩
    refine ⟨trivial, ?_⟩
    refine ⟨b1, ?_⟩
    refine ⟨fun b2 => ?_, fun b2 => ?_⟩
    · rw [if_neg (of_decide_eq_false b2)] at h
      refine ⟨b2, ?_⟩
      refine ⟨trivial, ?_⟩
      refine ⟨b2, ?_⟩
      refine ⟨trivial, ?_⟩
      refine ⟨b2, ?_⟩
      refine ⟨fun b3 => ?_, fun b3 => ?_⟩
      · rw [if_neg (of_decide_eq_false b3)] at h
        refine ⟨b3, ?_⟩
        refine ⟨trivial, ?_⟩
        refine ⟨b3, ?_⟩
        refine ⟨trivial, ?_⟩
        refine ⟨b3, ?_⟩
        refine ⟨fun b4 => ?_, fun b4 => ?_⟩
        · rw [if_neg (of_decide_eq_false b4)] at h
          refine ⟨b4, ?_⟩
          refine ⟨trivial, ?_⟩
          refine ⟨b4, ?_⟩
          refine ⟨trivial, ?_⟩
          refine ⟨b4, ?_⟩
          refine ⟨fun b5 => ?_, fun b5 => ?_⟩
          · rw [if_pos (of_decide_eq_true b5)] at h
            refine ⟨trivial, ?_⟩
            refine ⟨trivial, ?_⟩
            obtain rfl := Option.some.inj h
            exact ⟨trivial, ⟨trivial, trivial⟩, rfl, rfl⟩
          · rw [if_neg (of_decide_eq_false b5)] at h
            refine ⟨trivial, ?_⟩
            refine ⟨trivial, ?_⟩
            refine ⟨trivial, ?_⟩
            obtain rfl := Option.some.inj h
            exact ⟨trivial, ⟨trivial, trivial⟩, rfl, rfl⟩
        · rw [if_pos (of_decide_eq_true b4)] at h
          refine ⟨b4, ?_⟩
          refine ⟨b4, ?_⟩
          refine ⟨b4, ?_⟩
          refine ⟨rfl, ?_⟩
          refine ⟨trivial, ?_⟩
          refine ⟨trivial, ?_⟩
          obtain rfl := Option.some.inj h
          exact ⟨trivial, ⟨trivial, trivial⟩, rfl, rfl⟩
      · rw [if_pos (of_decide_eq_true b3)] at h
        refine ⟨b3, ?_⟩
        refine ⟨b3, ?_⟩
        refine ⟨b3, ?_⟩
        refine ⟨rfl, ?_⟩
        refine ⟨rfl, ?_⟩
        refine ⟨rfl, ?_⟩
        refine ⟨rfl, ?_⟩
        refine ⟨rfl, ?_⟩
        refine ⟨trivial, ?_⟩
        refine ⟨trivial, ?_⟩
        obtain rfl := Option.some.inj h
        exact ⟨trivial, ⟨trivial, trivial⟩, rfl, rfl⟩
    · rw [if_pos (of_decide_eq_true b2)] at h
      refine ⟨b2, ?_⟩
      refine ⟨b2, ?_⟩
      refine ⟨b2, ?_⟩
      refine ⟨rfl, ?_⟩
      refine ⟨rfl, ?_⟩
      refine ⟨rfl, ?_⟩
      refine ⟨rfl, ?_⟩
      refine ⟨rfl, ?_⟩
      refine ⟨rfl, ?_⟩
      refine ⟨rfl, ?_⟩
      refine ⟨rfl, ?_⟩
      refine ⟨rfl, ?_⟩
      refine ⟨trivial, ?_⟩
      refine ⟨trivial, ?_⟩
      obtain rfl := Option.some.inj h
      exact ⟨trivial, ⟨trivial, trivial⟩, rfl, rfl⟩
  · rw [if_pos (of_decide_eq_true b1)] at h
    refine ⟨b1, ?_⟩
    refine ⟨b1, ?_⟩
    refine ⟨b1, ?_⟩
    refine ⟨rfl, ?_⟩
    refine ⟨rfl, ?_⟩
    refine ⟨rfl, ?_⟩
    refine ⟨rfl, ?_⟩
    refine ⟨rfl, ?_⟩
    refine ⟨rfl, ?_⟩
    refine ⟨rfl, ?_⟩
    refine ⟨rfl, ?_⟩
    refine ⟨rfl, ?_⟩
    refine ⟨rfl, ?_⟩
    refine ⟨rfl, ?_⟩
    refine ⟨rfl, ?_⟩
    refine ⟨rfl, ?_⟩
    refine ⟨trivial, ?_⟩
    refine ⟨trivial, ?_⟩
    obtain rfl := Option.some.inj h
    exact ⟨trivial, ⟨trivial, trivial⟩, rfl, rfl⟩
/-! slices.Grow[[]byte,byte] -/
def slices_Grow_byte_byte.f (a0 : Int) : Option (List Int) :=
  if a0 < (0 : Int) then
    none
  else
    if (IntKind.wrap .i64 (a0 - (0 : Int))) > (0 : Int) then
      if 0 ≤ (IntKind.wrap .i64 (a0 - (0 : Int))) ∧ (IntKind.wrap .i64 (a0 - (0 : Int))) * (1 : Int) ≤ 140737488355328 ∧ (IntKind.wrap .i64 (a0 - (0 : Int))) ≤ 9223372036854775807 then
        if ((0 ≤ (0 : Int) ∧ (0 : Int) ≤ (((Int.toNat (IntKind.wrap .i64 (a0 - (0 : Int)))) : Nat) : Int))) ∧ (True) then
          some ([] : List Int)
        else none
      else none
    else
      some ([] : List Int)
def slices_Grow_byte_byte.R (r : (List Int)) : Tm := .v (.one (.os 0 0 0 1 (List.length r) none))
def slices_Grow_byte_byte.B (a0 : Int) (r : (List Int)) : List Box := [.gro false (.int .u8) r 5]
theorem slices_Grow_byte_byte.fun_ {a0 : Int} {r : (List Int)} (h : slices_Grow_byte_byte.f a0 = some r) : Fun cfg 22 [.one (.sc (.slice none 0 0)), .one (.sc (.int .i64 a0))] [] (slices_Grow_byte_byte.R r) (slices_Grow_byte_byte.B a0 r) := by
  unfold slices_Grow_byte_byte.f at h
  refine fun_of_run cfg_ok (f := 22) (fn := Tryd.f22) Tryd.func22 rfl (by kernel_rfl) (rs := [.tmp 4]) rfl (nt := 27) rfl (l := fin) (k := (.br .nil (.br (.d (.b false) (.adj [] (.adj [] (.adj [.cut 0 0] .nil)))) (.adj [] (.adj [] (.adj [] (.adj [.nilGro 0 (.int .u8) 5] .nil))))))) (to_goal (q := (True) ∧ (((decide (a0 < (0 : Int))) = true → False) ∧ ((decide (a0 < (0 : Int))) = false → (True) ∧ (True) ∧ (True) ∧ (True) ∧ (True) ∧ (((decide ((IntKind.wrap .i64 (a0 - (0 : Int))) > (0 : Int))) = true → (True) ∧ (((0 ≤ (0 : Int) ∧ (0 : Int) ≤ ((0 : Nat) : Int))) ∧ (True)) ∧ (0 ≤ (IntKind.wrap .i64 (a0 - (0 : Int))) ∧ (IntKind.wrap .i64 (a0 - (0 : Int))) * (1 : Int) ≤ 140737488355328 ∧ (IntKind.wrap .i64 (a0 - (0 : Int))) ≤ 9223372036854775807) ∧ (True) ∧ (((0 ≤ (0 : Int) ∧ (0 : Int) ≤ (((Int.toNat (IntKind.wrap .i64 (a0 - (0 : Int)))) : Nat) : Int))) ∧ (True)) ∧ (True ∧ (True ∧ ((True) ∧ ((True) ∧ True) ∧ (.v (.one (.os 0 0 0 1 0 none)) : Tm) = slices_Grow_byte_byte.R r ∧ ([.gro false (.int .u8) ([] : List Int) 5] : List Box) = slices_Grow_byte_byte.B a0 r)))) ∧ ((decide ((IntKind.wrap .i64 (a0 - (0 : Int))) > (0 : Int))) = false → (True ∧ (True ∧ (True ∧ ((True) ∧ ((True) ∧ True) ∧ (.v (.one (.os 0 0 0 1 0 none)) : Tm) = slices_Grow_byte_byte.R r ∧ ([.gro false (.int .u8) ([] : List Int) 5] : List Box) = slices_Grow_byte_byte.B a0 r))))))))) (by kernel_rfl) ?_)
  refine ⟨trivial, ?_⟩
  refine ⟨fun b1 => ?_, fun b1 => ?_⟩
  · rw [if_pos (of_decide_eq_true b1)] at h
    cases h
  · rw [if_neg (of_decide_eq_false b1)] at h
    refine ⟨trivial, ?_⟩
    refine ⟨trivial, ?_⟩
    refine ⟨trivial, ?_⟩
    refine ⟨trivial, ?_⟩
    refine ⟨trivial, ?_⟩
    refine ⟨fun b2 => ?_, fun b2 => ?_⟩
    · rw [if_pos (of_decide_eq_true b2)] at h
      refine ⟨trivial, ?_⟩
      refine ⟨⟨(by decide), trivial⟩, ?_⟩
      obtain ⟨g4, h⟩ := of_guard h
      refine ⟨g4, ?_⟩
      refine ⟨trivial, ?_⟩
      obtain ⟨g3, h⟩ := of_guard h
      refine ⟨g3, ?_⟩
      refine ⟨trivial, ?_⟩
      refine ⟨trivial, ?_⟩
      obtain rfl := Option.some.inj h
      exact ⟨trivial, ⟨trivial, trivial⟩, rfl, rfl⟩
    · rw [if_neg (of_decide_eq_false b2)] at h
      refine ⟨trivial, ?_⟩
      refine ⟨trivial, ?_⟩
      refine ⟨trivial, ?_⟩
      obtain rfl := Option.some.inj h
      exact ⟨trivial, ⟨trivial, trivial⟩, rfl, rfl⟩
/-! slices.Concat[[]byte,byte] -/
def slices_Concat_byte_byte.l0 (a0 : (List (List Int))) : Nat → Int → Int → Option Int
  | 0, _, _ => none
  | n + 1, x1, x2 =>
    if x2 < (((List.length a0) : Nat) : Int) then
      if 0 ≤ x2 ∧ x2 < (((List.length a0) : Nat) : Int) then
        if (IntKind.wrap .i64 (x1 + (((List.length (List.getD a0 (Int.toNat x2) ([] : List Int))) : Nat) : Int))) < (0 : Int) then
          none
        else
          slices_Concat_byte_byte.l0 a0 n (IntKind.wrap .i64 (x1 + (((List.length (List.getD a0 (Int.toNat x2) ([] : List Int))) : Nat) : Int))) (IntKind.wrap .i64 (x2 + (1 : Int)))
      else none
    else
      some x1
def slices_Concat_byte_byte.l0_S (a0 : (List (List Int))) (x1 : Int) (x2 : Int) : St := ⟨[.v (.one (.fs (.sl (.int .u8)) a0 false)), .any, .any, .v (.one (.sc (.int .i64 x1))), .any, .any, .any, .any, .any, .v (.one (.fs (.sl (.int .u8)) a0 false)), .v (.one (.sc (.int .i64 (((List.length a0) : Nat) : Int)))), .v (.one (.sc (.int .i64 x2))), .any, .any, .any, .any, .any, .any, .any, .any, .any, .any, .any, .any, .any, .any, .any, .any, .any, .any, .any, .any, .any, .any, .any, .any], [], 0⟩
def slices_Concat_byte_byte.l0_Q (a0 : (List (List Int))) (t : Int) : Exit → St → Prop := fun e s => e = (.exit 0) ∧ s = ⟨[.v (.one (.fs (.sl (.int .u8)) a0 false)), .any, .any, .v (.one (.sc (.int .i64 t))), .any, .any, .any, .any, .any, .any, .any, .any, .any, .any, .any, .any, .any, .any, .any, .any, .any, .any, .any, .any, .any, .any, .any, .any, .any, .any, .any, .any, .any, .any, .any, .any], [], 0⟩
theorem slices_Concat_byte_byte.l0_ok (a0 : (List (List Int))) : ∀ (n : Nat) (x1 : Int) (x2 : Int) (r : Int), slices_Concat_byte_byte.l0 a0 n x1 x2 = some r → TripN cfg (cpath (Tryd.f19.body.getD .skip) [1, 1, 0, 1, 0, 0]) n (slices_Concat_byte_byte.l0_S a0 x1 x2) (slices_Concat_byte_byte.l0_Q a0 r) := by
  intro n
  induction n with
  | zero => intro x1 x2 r h; cases h
  | succ n ih =>
    intro x1 x2 r h
    rw [slices_Concat_byte_byte.l0] at h
    refine TripN.of_run cfg_ok (k := (.br (.br .nil (.adj [] (.adj [] (.adj [.keep [0, 3, 9, 10, 11], .drop 0] .nil)))) (.adj [.keep [0, 3], .drop 0] .nil))) (to_goal (q := (True) ∧ (((decide (x2 < (((List.length a0) : Nat) : Int))) = true → (0 ≤ x2 ∧ x2 < (((List.length a0) : Nat) : Int)) ∧ (True) ∧ (True) ∧ (True) ∧ (True) ∧ (((decide ((IntKind.wrap .i64 (x1 + (((List.length (List.getD a0 (Int.toNat x2) ([] : List Int))) : Nat) : Int))) < (0 : Int))) = true → False) ∧ ((decide ((IntKind.wrap .i64 (x1 + (((List.length (List.getD a0 (Int.toNat x2) ([] : List Int))) : Nat) : Int))) < (0 : Int))) = false → (True ∧ (True ∧ (True) ∧ (((True) ∧ (True) ∧ True) ∧ TripN cfg (cpath (Tryd.f19.body.getD .skip) [1, 1, 0, 1, 0, 0]) n (slices_Concat_byte_byte.l0_S a0 (IntKind.wrap .i64 (x1 + (((List.length (List.getD a0 (Int.toNat x2) ([] : List Int))) : Nat) : Int))) (IntKind.wrap .i64 (x2 + (1 : Int)))) (slices_Concat_byte_byte.l0_Q a0 r))))))) ∧ ((decide (x2 < (((List.length a0) : Nat) : Int))) = false → (((True) ∧ (True) ∧ True) ∧ slices_Concat_byte_byte.l0_Q a0 r (.exit 0) ⟨[.v (.one (.fs (.sl (.int .u8)) a0 false)), .any, .any, .v (.one (.sc (.int .i64 x1))), .any, .any, .any, .any, .any, .any, .any, .any, .any, .any, .any, .any, .any, .any, .any, .any, .any, .any, .any, .any, .any, .any, .any, .any, .any, .any, .any, .any, .any, .any, .any, .any], [], 0⟩)))) (by kernel_rfl) ?_)
    refine ⟨trivial, ?_⟩
    refine ⟨fun b8 => ?_, fun b8 => ?_⟩
    · rw [if_pos (of_decide_eq_true b8)] at h
      obtain ⟨g10, h⟩ := of_guard h
      refine ⟨g10, ?_⟩
      refine ⟨trivial, ?_⟩
      refine ⟨trivial, ?_⟩
      refine ⟨trivial, ?_⟩
      refine ⟨trivial, ?_⟩
      refine ⟨fun b9 => ?_, fun b9 => ?_⟩
      · rw [if_pos (of_decide_eq_true b9)] at h
        cases h
      · rw [if_neg (of_decide_eq_false b9)] at h
        refine ⟨trivial, ?_⟩
        refine ⟨trivial, ?_⟩
        refine ⟨trivial, ?_⟩
        exact ⟨⟨trivial, trivial, trivial⟩, ih (IntKind.wrap .i64 (x1 + (((List.length (List.getD a0 (Int.toNat x2) ([] : List Int))) : Nat) : Int))) (IntKind.wrap .i64 (x2 + (1 : Int))) r h⟩
    · rw [if_neg (of_decide_eq_false b8)] at h
      obtain rfl := Option.some.inj h
      exact ⟨⟨trivial, trivial, trivial⟩, rfl, rfl⟩
def slices_Concat_byte_byte.l1 (a0 : (List (List Int))) : Nat → (List Int) → Int → Option (List Int)
  | 0, _, _ => none
  | n + 1, x18, x19 =>
    if x19 < (((List.length a0) : Nat) : Int) then
      if 0 ≤ x19 ∧ x19 < (((List.length a0) : Nat) : Int) then
        if True ∧ 0 = 0 ∧ (List.length x18) = (List.length x18) ∧ (((List.length x18) + (List.length (List.getD a0 (Int.toNat x19) ([] : List Int)))) * 1 ≤ 140737488355328 ∧ (List.length x18) + (List.length (List.getD a0 (Int.toNat x19) ([] : List Int))) ≤ 9223372036854775807) then
          slices_Concat_byte_byte.l1 a0 n (x18 ++ (List.getD a0 (Int.toNat x19) ([] : List Int))) (IntKind.wrap .i64 (x19 + (1 : Int)))
        else none
      else none
    else
      some x18
def slices_Concat_byte_byte.l1_S (a0 : (List (List Int))) (x18 : List Int) (x19 : Int) : St := ⟨[.any, .any, .any, .any, .any, .any, .v (.one (.os 0 0 0 1 (List.length x18) none)), .any, .any, .any, .any, .any, .any, .any, .any, .any, .any, .any, .any, .any, .any, .any, .any, .any, .any, .v (.one (.fs (.sl (.int .u8)) a0 false)), .v (.one (.sc (.int .i64 (((List.length a0) : Nat) : Int)))), .v (.one (.sc (.int .i64 x19))), .any, .any, .any, .any, .any, .any, .any, .any], [.gro false (.int .u8) x18 5], 0⟩
def slices_Concat_byte_byte.l1_Q (a0 : (List (List Int))) (t : (List Int)) : Exit → St → Prop := fun e s => e = (.exit 2) ∧ s = ⟨[.any, .any, .any, .any, .any, .any, .v (.one (.os 0 0 0 1 (List.length t) none)), .any, .any, .any, .any, .any, .any, .any, .any, .any, .any, .any, .any, .any, .any, .any, .any, .any, .any, .any, .any, .any, .any, .any, .any, .any, .any, .any, .any, .any], [.gro false (.int .u8) t 5], 0⟩
theorem slices_Concat_byte_byte.l1_ok (a0 : (List (List Int))) : ∀ (n : Nat) (x18 : List Int) (x19 : Int) (r : (List Int)), slices_Concat_byte_byte.l1 a0 n x18 x19 = some r → TripN cfg (cpath (Tryd.f19.body.getD .skip) [1, 1, 1, 1, 0, 1, 0, 0]) n (slices_Concat_byte_byte.l1_S a0 x18 x19) (slices_Concat_byte_byte.l1_Q a0 r) := by
  intro n
  induction n with
  | zero => intro x18 x19 r h; cases h
  | succ n ih =>
    intro x18 x19 r h
    rw [slices_Concat_byte_byte.l1] at h
    refine TripN.of_run cfg_ok (k := (.br (.d (.b false) (.adj [] (.adj [.keep [6, 25, 26, 27], .drop 1] .nil))) (.adj [.keep [6], .drop 1] .nil))) (to_goal (q := (True) ∧ (((decide (x19 < (((List.length a0) : Nat) : Int))) = true → (0 ≤ x19 ∧ x19 < (((List.length a0) : Nat) : Int)) ∧ (True) ∧ (True ∧ 0 = 0 ∧ (List.length x18) = (List.length x18) ∧ (((List.length x18) + (List.length (List.getD a0 (Int.toNat x19) ([] : List Int)))) * 1 ≤ 140737488355328 ∧ (List.length x18) + (List.length (List.getD a0 (Int.toNat x19) ([] : List Int))) ≤ 9223372036854775807)) ∧ (True ∧ (True) ∧ (((True) ∧ (True) ∧ True) ∧ TripN cfg (cpath (Tryd.f19.body.getD .skip) [1, 1, 1, 1, 0, 1, 0, 0]) n (slices_Concat_byte_byte.l1_S a0 (x18 ++ (List.getD a0 (Int.toNat x19) ([] : List Int))) (IntKind.wrap .i64 (x19 + (1 : Int)))) (slices_Concat_byte_byte.l1_Q a0 r)))) ∧ ((decide (x19 < (((List.length a0) : Nat) : Int))) = false → (((True) ∧ (True) ∧ True) ∧ slices_Concat_byte_byte.l1_Q a0 r (.exit 2) ⟨[.any, .any, .any, .any, .any, .any, .v (.one (.os 0 0 0 1 (List.length x18) none)), .any, .any, .any, .any, .any, .any, .any, .any, .any, .any, .any, .any, .any, .any, .any, .any, .any, .any, .any, .any, .any, .any, .any, .any, .any, .any, .any, .any, .any], [.gro false (.int .u8) x18 5], 0⟩)))) (by kernel_rfl) ?_)
    refine ⟨trivial, ?_⟩
    refine ⟨fun b25 => ?_, fun b25 => ?_⟩
    · rw [if_pos (of_decide_eq_true b25)] at h
      obtain ⟨g27, h⟩ := of_guard h
      refine ⟨g27, ?_⟩
      refine ⟨trivial, ?_⟩
      obtain ⟨g26, h⟩ := of_guard h
      refine ⟨g26, ?_⟩
      refine ⟨trivial, ?_⟩
      refine ⟨trivial, ?_⟩
      exact ⟨⟨trivial, trivial, trivial⟩, ih (x18 ++ (List.getD a0 (Int.toNat x19) ([] : List Int))) (IntKind.wrap .i64 (x19 + (1 : Int))) r h⟩
    · rw [if_neg (of_decide_eq_false b25)] at h
      obtain rfl := Option.some.inj h
      exact ⟨⟨trivial, trivial, trivial⟩, rfl, rfl⟩
def slices_Concat_byte_byte.f (a0 : (List (List Int))) : Option (List Int) :=
  (slices_Concat_byte_byte.l0 a0 FUEL (0 : Int) (0 : Int)).bind fun t7 =>
  (slices_Grow_byte_byte.f t7).bind fun t13 =>
  (slices_Concat_byte_byte.l1 a0 FUEL t13 (0 : Int)).bind fun t24 =>
  some t24
def slices_Concat_byte_byte.R (r : (List Int)) : Tm := .v (.one (.fs (.int .u8) r false))
theorem slices_Concat_byte_byte.fun_ {a0 : (List (List Int))} {r : (List Int)} (h : slices_Concat_byte_byte.f a0 = some r) : Fun cfg 19 [.one (.fs (.sl (.int .u8)) a0 false)] [] (slices_Concat_byte_byte.R r) [] := by
  unfold slices_Concat_byte_byte.f at h
  refine fun_of_run cfg_ok (f := 19) (fn := Tryd.f19) Tryd.func19 rfl (by kernel_rfl) (rs := [.tmp 2]) rfl (nt := 36) rfl (l := fin) (k := (.adj [] (.adj [] (.adj [] (.adj [] (.adj [.keep [0, 3, 9, 10, 11]] (.sub (Int) (fun _ => (.exit 0)) (fun t7 => ⟨[.v (.one (.fs (.sl (.int .u8)) a0 false)), .any, .any, .v (.one (.sc (.int .i64 t7))), .any, .any, .any, .any, .any, .any, .any, .any, .any, .any, .any, .any, .any, .any, .any, .any, .any, .any, .any, .any, .any, .any, .any, .any, .any, .any, .any, .any, .any, .any, .any, .any], [], 0⟩) (fun t7 => (.callR true [] [] ((List Int)) (fun t13 => (slices_Grow_byte_byte.R t13)) (fun t13 => (slices_Grow_byte_byte.B t7 t13)) (fun t13 => (.adj [] (.adj [] (.adj [.keep [6, 25, 26, 27]] (.sub ((List Int)) (fun _ => (.exit 2)) (fun t24 => ⟨[.any, .any, .any, .any, .any, .any, .v (.one (.os 0 0 0 1 (List.length t24) none)), .any, .any, .any, .any, .any, .any, .any, .any, .any, .any, .any, .any, .any, .any, .any, .any, .any, .any, .any, .any, .any, .any, .any, .any, .any, .any, .any, .any, .any], [.gro false (.int .u8) t24 5], 0⟩) (fun t24 => (.adj [] (.adj [] (.adj [.co 0 true [], .drop 0] .nil)))))))))))))))))) (to_goal (q := (True ∧ (True ∧ (True ∧ (True) ∧ (True ∧ (((True) ∧ True) ∧ (∃ t7 : Int, Trip cfg (.loop (cpath (Tryd.f19.body.getD .skip) [1, 1, 0, 1, 0, 0])) ⟨[.v (.one (.fs (.sl (.int .u8)) a0 false)), .any, .any, .v (.one (.sc (.int .i64 (0 : Int)))), .any, .any, .any, .any, .any, .v (.one (.fs (.sl (.int .u8)) a0 false)), .v (.one (.sc (.int .i64 (((List.length a0) : Nat) : Int)))), .v (.one (.sc (.int .i64 (0 : Int)))), .any, .any, .any, .any, .any, .any, .any, .any, .any, .any, .any, .any, .any, .any, .any, .any, .any, .any, .any, .any, .any, .any, .any, .any], [], 0⟩ (fun e s => e = (.exit 0) ∧ s = ⟨[.v (.one (.fs (.sl (.int .u8)) a0 false)), .any, .any, .v (.one (.sc (.int .i64 t7))), .any, .any, .any, .any, .any, .any, .any, .any, .any, .any, .any, .any, .any, .any, .any, .any, .any, .any, .any, .any, .any, .any, .any, .any, .any, .any, .any, .any, .any, .any, .any, .any], [], 0⟩) ∧ (∃ t13 : (List Int), (Fun cfg 22 [.one (.sc (.slice none 0 0)), .one (.sc (.int .i64 t7))] [] (slices_Grow_byte_byte.R t13) (slices_Grow_byte_byte.B t7 t13) ∧ True) ∧ (True ∧ (True) ∧ (True ∧ (((True) ∧ True) ∧ (∃ t24 : (List Int), Trip cfg (.loop (cpath (Tryd.f19.body.getD .skip) [1, 1, 1, 1, 0, 1, 0, 0])) ⟨[.any, .any, .any, .any, .any, .any, .v (.one (.os 0 0 0 1 (List.length t13) none)), .any, .any, .any, .any, .any, .any, .any, .any, .any, .any, .any, .any, .any, .any, .any, .any, .any, .any, .v (.one (.fs (.sl (.int .u8)) a0 false)), .v (.one (.sc (.int .i64 (((List.length a0) : Nat) : Int)))), .v (.one (.sc (.int .i64 (0 : Int)))), .any, .any, .any, .any, .any, .any, .any, .any], [.gro false (.int .u8) t13 5], 0⟩ (fun e s => e = (.exit 2) ∧ s = ⟨[.any, .any, .any, .any, .any, .any, .v (.one (.os 0 0 0 1 (List.length t24) none)), .any, .any, .any, .any, .any, .any, .any, .any, .any, .any, .any, .any, .any, .any, .any, .any, .any, .any, .any, .any, .any, .any, .any, .any, .any, .any, .any, .any, .any], [.gro false (.int .u8) t24 5], 0⟩) ∧ (True ∧ (True ∧ ((True) ∧ ((((0 = 0 ∧ (List.length t24) = (List.length t24))) ∧ True) ∧ (True) ∧ True) ∧ (.v (.one (.fs (.int .u8) t24 false)) : Tm) = slices_Concat_byte_byte.R r ∧ ([] : List Box) = []))))))))))))))) (by kernel_rfl) ?_)
  refine ⟨trivial, ?_⟩
  refine ⟨trivial, ?_⟩
  refine ⟨trivial, ?_⟩
  refine ⟨trivial, ?_⟩
  refine ⟨trivial, ?_⟩
  obtain ⟨t7, ht7, h⟩ := of_bind h
  refine ⟨⟨trivial, trivial⟩, t7, Trip.loop FUEL (slices_Concat_byte_byte.l0_ok a0 FUEL (0 : Int) (0 : Int) t7 ht7), ?_⟩
  obtain ⟨t13, ht13, h⟩ := of_bind h
  refine ⟨t13, ⟨slices_Grow_byte_byte.fun_ ht13, trivial⟩, ?_⟩
  refine ⟨trivial, ?_⟩
  refine ⟨trivial, ?_⟩
  refine ⟨trivial, ?_⟩
  obtain ⟨t24, ht24, h⟩ := of_bind h
  refine ⟨⟨trivial, trivial⟩, t24, Trip.loop FUEL (slices_Concat_byte_byte.l1_ok a0 FUEL t13 (0 : Int) t24 ht24), ?_⟩
  refine ⟨trivial, ?_⟩
  refine ⟨trivial, ?_⟩
  obtain rfl := Option.some.inj h
  exact ⟨trivial, ⟨⟨⟨rfl, rfl⟩, trivial⟩, trivial, trivial⟩, rfl, rfl⟩
/-! halter/pipe.Write -/
def pipe_Write.f (a0 : (List Int)) (a1 : Int) (a2 : Int) (a3 : (List Int)) : Option (TY1) :=
  (pipe_Check.f a0 a1 a2).bind fun t1 =>
  if ¬ (t1 = none) then
    some ((0 : Int), ([] : List Int), (0 : Int), (0 : Int), (some (22 : Int)))
  else
    if a1 = (0 : Int) then
      some ((0 : Int), ([] : List Int), (0 : Int), (0 : Int), (some (32 : Int)))
    else
      if (((List.length a3) : Nat) : Int) > (0 : Int) then
        if (IntKind.wrap .i64 ((64 : Int) - (((List.length a0) : Nat) : Int))) = (0 : Int) then
          some ((0 : Int), ([] : List Int), (0 : Int), (0 : Int), (some (11 : Int)))
        else
          if 0 ≤ (if (IntKind.wrap .i64 ((64 : Int) - (((List.length a0) : Nat) : Int))) < (((List.length a3) : Nat) : Int) then (IntKind.wrap .i64 ((64 : Int) - (((List.length a0) : Nat) : Int))) else (((List.length a3) : Nat) : Int)) ∧ (if (IntKind.wrap .i64 ((64 : Int) - (((List.length a0) : Nat) : Int))) < (((List.length a3) : Nat) : Int) then (IntKind.wrap .i64 ((64 : Int) - (((List.length a0) : Nat) : Int))) else (((List.length a3) : Nat) : Int)) ≤ (((List.length a3) : Nat) : Int) then
            (slices_Concat_byte_byte.f [a0, (List.take (Int.toNat (if (IntKind.wrap .i64 ((64 : Int) - (((List.length a0) : Nat) : Int))) < (((List.length a3) : Nat) : Int) then (IntKind.wrap .i64 ((64 : Int) - (((List.length a0) : Nat) : Int))) else (((List.length a3) : Nat) : Int))) a3)]).bind fun t7 =>
            some ((if (IntKind.wrap .i64 ((64 : Int) - (((List.length a0) : Nat) : Int))) < (((List.length a3) : Nat) : Int) then (IntKind.wrap .i64 ((64 : Int) - (((List.length a0) : Nat) : Int))) else (((List.length a3) : Nat) : Int)), t7, a1, a2, none)
          else none
      else
        if 0 ≤ (if (IntKind.wrap .i64 ((64 : Int) - (((List.length a0) : Nat) : Int))) < (((List.length a3) : Nat) : Int) then (IntKind.wrap .i64 ((64 : Int) - (((List.length a0) : Nat) : Int))) else (((List.length a3) : Nat) : Int)) ∧ (if (IntKind.wrap .i64 ((64 : Int) - (((List.length a0) : Nat) : Int))) < (((List.length a3) : Nat) : Int) then (IntKind.wrap .i64 ((64 : Int) - (((List.length a0) : Nat) : Int))) else (((List.length a3) : Nat) : Int)) ≤ (((List.length a3) : Nat) : Int) then
          (slices_Concat_byte_byte.f [a0, (List.take (Int.toNat (if (IntKind.wrap .i64 ((64 : Int) - (((List.length a0) : Nat) : Int))) < (((List.length a3) : Nat) : Int) then (IntKind.wrap .i64 ((64 : Int) - (((List.length a0) : Nat) : Int))) else (((List.length a3) : Nat) : Int))) a3)]).bind fun t9 =>
          some ((if (IntKind.wrap .i64 ((64 : Int) - (((List.length a0) : Nat) : Int))) < (((List.length a3) : Nat) : Int) then (IntKind.wrap .i64 ((64 : Int) - (((List.length a0) : Nat) : Int))) else (((List.length a3) : Nat) : Int)), t9, a1, a2, none)
        else none
def pipe_Write.R (r : TY1) : Tm := .tup [.one (.sc (.int .i64 r.1)), .agg [.c (.fs (.int .u8) r.2.1 false), .c (.sc (.int .i64 r.2.2.1)), .c (.sc (.int .i64 r.2.2.2.1))], .one (.err r.2.2.2.2)]
theorem pipe_Write.fun_ {a0 : (List Int)} {a1 : Int} {a2 : Int} {a3 : (List Int)} {r : TY1} (h : pipe_Write.f a0 a1 a2 a3 = some r) : Fun cfg 7 [.agg [.c (.fs (.int .u8) a0 false), .c (.sc (.int .i64 a1)), .c (.sc (.int .i64 a2))], .one (.fs (.int .u8) a3 false)] [] (pipe_Write.R r) [] := by
  unfold pipe_Write.f at h
  refine fun_of_run cfg_ok (f := 7) (fn := Tryd.f7) Tryd.func7 rfl (by kernel_rfl) (rs := [.tmp 4, .cell 5 25, .tmp 6]) rfl (nt := 49) rfl (l := fin) (k := (.call true [] ((Option Int)) (fun t1 => pipe_Check.R t1) (fun t1 => (.br (.adj [] (.adj [] (.adj [.co 1 true [(.int .u8)], .drop 0] .nil))) (.br (.adj [] (.adj [] (.adj [.co 1 true [(.int .u8)], .drop 0] .nil))) (.br (.one true (.one true (.br (.adj [] (.adj [] (.adj [.co 1 true [(.int .u8)], .drop 0] .nil))) (.ex ((List Int)) (fun t7 => (.dr [(0, dN), (2, dN), (3, dN), (1, dN), (4, dN), (5, dN), (6, ⟨none, .callR true [] [] (slices_Concat_byte_byte.R t7) [], false⟩), (7, dN), (8, dN)] (.dr [(0, dN), (2, dN), (1, dN), (3, dN), (4, dN)] (.adj [] (.adj [.drop 0] .nil))))))))) (.one false (.one false (.one false (.ex ((List Int)) (fun t9 => (.dr [(0, dN), (2, dN), (3, dN), (1, dN), (4, dN), (5, dN), (6, ⟨none, .callR true [] [] (slices_Concat_byte_byte.R t9) [], false⟩), (7, dN), (8, dN)] (.dr [(0, dN), (2, dN), (1, dN), (3, dN), (4, dN)] (.adj [] (.adj [.drop 0] .nil))))))))))))))) (to_goal (q := (True) ∧ (True) ∧ (True) ∧ (True) ∧ (∃ t1 : (Option Int), (Fun cfg 16 [.agg [.c (.fs (.int .u8) a0 false), .c (.sc (.int .i64 a1)), .c (.sc (.int .i64 a2))]] [] (pipe_Check.R t1) [] ∧ True) ∧ (True) ∧ (((!(Option.isNone t1)) = true → (True ∧ (True) ∧ (True ∧ (((True) ∧ True) ∧ ((True) ∧ (True) ∧ True) ∧ (.tup [.one (.sc (.int .i64 (0 : Int))), .agg [.c (.fs (.int .u8) ([] : List Int) false), .c (.sc (.int .i64 (0 : Int))), .c (.sc (.int .i64 (0 : Int)))], .one (.err (some (22 : Int)))] : Tm) = pipe_Write.R r ∧ ([] : List Box) = [])))) ∧ ((!(Option.isNone t1)) = false → (True) ∧ (True) ∧ (((a1 == (0 : Int)) = true → (True ∧ (True) ∧ (True ∧ (((True) ∧ True) ∧ ((True) ∧ (True) ∧ True) ∧ (.tup [.one (.sc (.int .i64 (0 : Int))), .agg [.c (.fs (.int .u8) ([] : List Int) false), .c (.sc (.int .i64 (0 : Int))), .c (.sc (.int .i64 (0 : Int)))], .one (.err (some (32 : Int)))] : Tm) = pipe_Write.R r ∧ ([] : List Box) = [])))) ∧ ((a1 == (0 : Int)) = false → (True) ∧ (True) ∧ (((decide ((((List.length a3) : Nat) : Int) > (0 : Int))) = true → ((decide ((((List.length a3) : Nat) : Int) > (0 : Int))) = true ∧ (True) ∧ ((decide ((((List.length a3) : Nat) : Int) > (0 : Int))) = true ∧ ((((IntKind.wrap .i64 ((64 : Int) - (((List.length a0) : Nat) : Int))) == (0 : Int)) = true → (True ∧ (True) ∧ (True ∧ (((True) ∧ True) ∧ ((True) ∧ (True) ∧ True) ∧ (.tup [.one (.sc (.int .i64 (0 : Int))), .agg [.c (.fs (.int .u8) ([] : List Int) false), .c (.sc (.int .i64 (0 : Int))), .c (.sc (.int .i64 (0 : Int)))], .one (.err (some (11 : Int)))] : Tm) = pipe_Write.R r ∧ ([] : List Box) = [])))) ∧ (((IntKind.wrap .i64 ((64 : Int) - (((List.length a0) : Nat) : Int))) == (0 : Int)) = false → (True) ∧ (True) ∧ (∃ t7 : (List Int), (True) ∧ (0 ≤ (if (IntKind.wrap .i64 ((64 : Int) - (((List.length a0) : Nat) : Int))) < (((List.length a3) : Nat) : Int) then (IntKind.wrap .i64 ((64 : Int) - (((List.length a0) : Nat) : Int))) else (((List.length a3) : Nat) : Int)) ∧ (if (IntKind.wrap .i64 ((64 : Int) - (((List.length a0) : Nat) : Int))) < (((List.length a3) : Nat) : Int) then (IntKind.wrap .i64 ((64 : Int) - (((List.length a0) : Nat) : Int))) else (((List.length a3) : Nat) : Int)) ≤ (((List.length a3) : Nat) : Int)) ∧ ((0 = 0 ∧ 2 = 2) ∧ Fun cfg 19 [.one (.fs (.sl (.int .u8)) [a0, (List.take (Int.toNat (if (IntKind.wrap .i64 ((64 : Int) - (((List.length a0) : Nat) : Int))) < (((List.length a3) : Nat) : Int) then (IntKind.wrap .i64 ((64 : Int) - (((List.length a0) : Nat) : Int))) else (((List.length a3) : Nat) : Int))) a3)] false)] [] (slices_Concat_byte_byte.R t7) [] ∧ True) ∧ (True) ∧ (True) ∧ (True) ∧ (True ∧ (((True) ∧ True) ∧ ((True) ∧ True) ∧ (.tup [.one (.sc (.int .i64 (if (IntKind.wrap .i64 ((64 : Int) - (((List.length a0) : Nat) : Int))) < (((List.length a3) : Nat) : Int) then (IntKind.wrap .i64 ((64 : Int) - (((List.length a0) : Nat) : Int))) else (((List.length a3) : Nat) : Int)))), .agg [.c (.fs (.int .u8) t7 false), .c (.sc (.int .i64 a1)), .c (.sc (.int .i64 a2))], .one (.err none)] : Tm) = pipe_Write.R r ∧ ([] : List Box) = [])))))))) ∧ ((decide ((((List.length a3) : Nat) : Int) > (0 : Int))) = false → ((decide ((((List.length a3) : Nat) : Int) > (0 : Int))) = false ∧ ((decide ((((List.length a3) : Nat) : Int) > (0 : Int))) = false ∧ (false = false ∧ (True) ∧ (True) ∧ (∃ t9 : (List Int), (True) ∧ (0 ≤ (if (IntKind.wrap .i64 ((64 : Int) - (((List.length a0) : Nat) : Int))) < (((List.length a3) : Nat) : Int) then (IntKind.wrap .i64 ((64 : Int) - (((List.length a0) : Nat) : Int))) else (((List.length a3) : Nat) : Int)) ∧ (if (IntKind.wrap .i64 ((64 : Int) - (((List.length a0) : Nat) : Int))) < (((List.length a3) : Nat) : Int) then (IntKind.wrap .i64 ((64 : Int) - (((List.length a0) : Nat) : Int))) else (((List.length a3) : Nat) : Int)) ≤ (((List.length a3) : Nat) : Int)) ∧ ((0 = 0 ∧ 2 = 2) ∧ Fun cfg 19 [.one (.fs (.sl (.int .u8)) [a0, (List.take (Int.toNat (if (IntKind.wrap .i64 ((64 : Int) - (((List.length a0) : Nat) : Int))) < (((List.length a3) : Nat) : Int) then (IntKind.wrap .i64 ((64 : Int) - (((List.length a0) : Nat) : Int))) else (((List.length a3) : Nat) : Int))) a3)] false)] [] (slices_Concat_byte_byte.R t9) [] ∧ True) ∧ (True) ∧ (True) ∧ (True) ∧ (True ∧ (((True) ∧ True) ∧ ((True) ∧ True) ∧ (.tup [.one (.sc (.int .i64 (if (IntKind.wrap .i64 ((64 : Int) - (((List.length a0) : Nat) : Int))) < (((List.length a3) : Nat) : Int) then (IntKind.wrap .i64 ((64 : Int) - (((List.length a0) : Nat) : Int))) else (((List.length a3) : Nat) : Int)))), .agg [.c (.fs (.int .u8) t9 false), .c (.sc (.int .i64 a1)), .c (.sc (.int .i64 a2))], .one (.err none)] : Tm) = pipe_Write.R r ∧ ([] : List Box) = [])))))))))))))) (by kernel_rfl) ?_)
  refine ⟨trivial, ?_⟩
  refine ⟨trivial, ?_⟩
  refine ⟨trivial, ?_⟩
  refine ⟨trivial, ?_⟩
  obtain ⟨t1, ht1, h⟩ := of_bind h
  refine ⟨t1, ⟨pipe_Check.fun_ ht1, trivial⟩, ?_⟩
  refine ⟨trivial, ?_⟩
  refine ⟨fun b2 => ?_, fun b2 => ?_⟩
  · rw [if_pos (none_f (not_t b2))] at h
    refine ⟨trivial, ?_⟩
    refine ⟨trivial, ?_⟩
    refine ⟨trivial, ?_⟩
    obtain rfl := Option.some.inj h
    exact ⟨⟨trivial, trivial⟩, ⟨trivial, trivial, trivial⟩, rfl, rfl⟩
  · rw [if_neg (not_not_intro (none_t (not_f b2)))] at h
    refine ⟨trivial, ?_⟩
    refine ⟨trivial, ?_⟩
    refine ⟨fun b3 => ?_, fun b3 => ?_⟩
    · rw [if_pos (beq_t b3)] at h
      refine ⟨trivial, ?_⟩
      refine ⟨trivial, ?_⟩
      refine ⟨trivial, ?_⟩
      obtain rfl := Option.some.inj h
      exact ⟨⟨trivial, trivial⟩, ⟨trivial, trivial, trivial⟩, rfl, rfl⟩
    · rw [if_neg (beq_f b3)] at h
      refine ⟨trivial, ?_⟩
      refine ⟨trivial, ?_⟩
      refine ⟨fun b4 => ?_, fun b4 => ?_⟩
      · rw [if_pos (of_decide_eq_true b4)] at h
        refine ⟨b4, ?_⟩
        refine ⟨trivial, ?_⟩
        refine ⟨b4, ?_⟩
        refine ⟨fun b5 => ?_, fun b5 => ?_⟩
        · rw [if_pos (beq_t b5)] at h
          refine ⟨trivial, ?_⟩
          refine ⟨trivial, ?_⟩
          refine ⟨trivial, ?_⟩
          obtain rfl := Option.some.inj h
          exact ⟨⟨trivial, trivial⟩, ⟨trivial, trivial, trivial⟩, rfl, rfl⟩
        · rw [if_neg (beq_f b5)] at h
          refine ⟨trivial, ?_⟩
          refine ⟨trivial, ?_⟩
          obtain ⟨g6, h⟩ := of_guard h
          obtain ⟨t7, ht7, h⟩ := of_bind h
          refine ⟨t7, ?_⟩
          refine ⟨trivial, g6, ⟨⟨rfl, rfl⟩, slices_Concat_byte_byte.fun_ ht7, trivial⟩, trivial, ?_⟩
          refine ⟨trivial, trivial, ?_⟩
          refine ⟨trivial, ?_⟩
          obtain rfl := Option.some.inj h
          exact ⟨⟨trivial, trivial⟩, ⟨trivial, trivial⟩, rfl, rfl⟩
      · rw [if_neg (of_decide_eq_false b4)] at h
        refine ⟨b4, ?_⟩
        refine ⟨b4, ?_⟩
        refine ⟨rfl, ?_⟩
        refine ⟨trivial, ?_⟩
        refine ⟨trivial, ?_⟩
        obtain ⟨g8, h⟩ := of_guard h
        obtain ⟨t9, ht9, h⟩ := of_bind h
        refine ⟨t9, ?_⟩
        refine ⟨trivial, g8, ⟨⟨rfl, rfl⟩, slices_Concat_byte_byte.fun_ ht9, trivial⟩, trivial, ?_⟩
        refine ⟨trivial, trivial, ?_⟩
        refine ⟨trivial, ?_⟩
        obtain rfl := Option.some.inj h
        exact ⟨⟨trivial, trivial⟩, ⟨trivial, trivial⟩, rfl, rfl⟩
/-! slices.Clone[[]byte,byte] -/
def slices_Clone_byte_byte.f (a0 : (List Int)) : Option (List Int) :=
  if (List.length a0) = 0 then same (
    some ([] : List Int)
    ) (
    if True ∧ 0 = 0 ∧ 0 = 0 ∧ ((0 + (List.length a0)) * 1 ≤ 140737488355328 ∧ 0 + (List.length a0) ≤ 9223372036854775807) then
      some (([] : List Int) ++ a0)
    else none
    )
  else
    if True ∧ 0 = 0 ∧ 0 = 0 ∧ ((0 + (List.length a0)) * 1 ≤ 140737488355328 ∧ 0 + (List.length a0) ≤ 9223372036854775807) then
      some (([] : List Int) ++ a0)
    else none
def slices_Clone_byte_byte.R (r : (List Int)) : Tm := .v (.one (.fs (.int .u8) r false))
theorem slices_Clone_byte_byte.fun_ {a0 : (List Int)} {r : (List Int)} (h : slices_Clone_byte_byte.f a0 = some r) : Fun cfg 21 [.one (.fs (.int .u8) a0 false)] [] (slices_Clone_byte_byte.R r) [] := by
  unfold slices_Clone_byte_byte.f at h
  refine fun_of_run cfg_ok (f := 21) (fn := Tryd.f21) Tryd.func21 rfl (by kernel_rfl) (rs := [.tmp 2]) rfl (nt := 8) rfl (l := fin) (k := (.nq (.one true (.adj [] (.adj [] (.adj [.co 0 true [(.int .u8)]] .nil)))) (.one false (.d (.b false) (.adj [] (.adj [.co 0 true [], .drop 0] .nil)))))) (to_goal (q := (((List.length a0) = 0 → (true = true ∧ (True ∧ (True ∧ ((True) ∧ ((True) ∧ True) ∧ (.v (.one (.fs (.int .u8) ([] : List Int) false)) : Tm) = slices_Clone_byte_byte.R r ∧ ([] : List Box) = []))))) ∧ (false = false ∧ (True ∧ 0 = 0 ∧ 0 = 0 ∧ ((0 + (List.length a0)) * 1 ≤ 140737488355328 ∧ 0 + (List.length a0) ≤ 9223372036854775807)) ∧ (True ∧ ((True) ∧ ((((0 = 0 ∧ (List.length (([] : List Int) ++ a0)) = (List.length (([] : List Int) ++ a0)))) ∧ True) ∧ (True) ∧ True) ∧ (.v (.one (.fs (.int .u8) (([] : List Int) ++ a0) false)) : Tm) = slices_Clone_byte_byte.R r ∧ ([] : List Box) = []))))) (by kernel_rfl) ?_)
  refine ⟨fun g1 => ?_, ?_⟩
  · replace h := same_a g1 h
    refine ⟨rfl, ?_⟩
    refine ⟨trivial, ?_⟩
    refine ⟨trivial, ?_⟩
    obtain rfl := Option.some.inj h
    exact ⟨trivial, ⟨trivial, trivial⟩, rfl, rfl⟩
  · replace h := same_b h
    refine ⟨rfl, ?_⟩
    obtain ⟨g2, h⟩ := of_guard h
    refine ⟨g2, ?_⟩
    refine ⟨trivial, ?_⟩
    obtain rfl := Option.some.inj h
    exact ⟨trivial, ⟨⟨⟨rfl, rfl⟩, trivial⟩, trivial, trivial⟩, rfl, rfl⟩
/-! halter/pipe.Read -/
def pipe_Read.f (a0 : (List Int)) (a1 : Int) (a2 : Int) (a3 : Int) : Option (TY0) :=
  (pipe_Check.f a0 a1 a2).bind fun t1 =>
  if ¬ (t1 = none) then
    some (([] : List Int), ([] : List Int), (0 : Int), (0 : Int), (some (22 : Int)))
  else
    if a3 < (0 : Int) then
      some (([] : List Int), ([] : List Int), (0 : Int), (0 : Int), (some (22 : Int)))
    else
      if a3 > (0 : Int) then
        if (((List.length a0) : Nat) : Int) = (0 : Int) then
          if a2 > (0 : Int) then
            some (([] : List Int), ([] : List Int), (0 : Int), (0 : Int), (some (11 : Int)))
          else
            if 0 ≤ (if (((List.length a0) : Nat) : Int) < a3 then (((List.length a0) : Nat) : Int) else a3) ∧ (if (((List.length a0) : Nat) : Int) < a3 then (((List.length a0) : Nat) : Int) else a3) ≤ (((List.length a0) : Nat) : Int) then
              (slices_Clone_byte_byte.f (List.take (Int.toNat (if (((List.length a0) : Nat) : Int) < a3 then (((List.length a0) : Nat) : Int) else a3)) a0)).bind fun t7 =>
              if (True) ∧ ((0 ≤ (if (((List.length a0) : Nat) : Int) < a3 then (((List.length a0) : Nat) : Int) else a3) ∧ (if (((List.length a0) : Nat) : Int) < a3 then (((List.length a0) : Nat) : Int) else a3) ≤ (((List.length a0) : Nat) : Int))) then
                (slices_Clone_byte_byte.f (List.drop (Int.toNat (if (((List.length a0) : Nat) : Int) < a3 then (((List.length a0) : Nat) : Int) else a3)) a0)).bind fun t8 =>
                some (t7, t8, a1, a2, none)
              else none
            else none
        else
          if 0 ≤ (if (((List.length a0) : Nat) : Int) < a3 then (((List.length a0) : Nat) : Int) else a3) ∧ (if (((List.length a0) : Nat) : Int) < a3 then (((List.length a0) : Nat) : Int) else a3) ≤ (((List.length a0) : Nat) : Int) then
            (slices_Clone_byte_byte.f (List.take (Int.toNat (if (((List.length a0) : Nat) : Int) < a3 then (((List.length a0) : Nat) : Int) else a3)) a0)).bind fun t11 =>
            if (True) ∧ ((0 ≤ (if (((List.length a0) : Nat) : Int) < a3 then (((List.length a0) : Nat) : Int) else a3) ∧ (if (((List.length a0) : Nat) : Int) < a3 then (((List.length a0) : Nat) : Int) else a3) ≤ (((List.length a0) : Nat) : Int))) then
              (slices_Clone_byte_byte.f (List.drop (Int.toNat (if (((List.length a0) : Nat) : Int) < a3 then (((List.length a0) : Nat) : Int) else a3)) a0)).bind fun t12 =>
              some (t11, t12, a1, a2, none)
            else none
          else none
      else
        if 0 ≤ (if (((List.length a0) : Nat) : Int) < a3 then (((List.length a0) : Nat) : Int) else a3) ∧ (if (((List.length a0) : Nat) : Int) < a3 then (((List.length a0) : Nat) : Int) else a3) ≤ (((List.length a0) : Nat) : Int) then
          (slices_Clone_byte_byte.f (List.take (Int.toNat (if (((List.length a0) : Nat) : Int) < a3 then (((List.length a0) : Nat) : Int) else a3)) a0)).bind fun t15 =>
          if (True) ∧ ((0 ≤ (if (((List.length a0) : Nat) : Int) < a3 then (((List.length a0) : Nat) : Int) else a3) ∧ (if (((List.length a0) : Nat) : Int) < a3 then (((List.length a0) : Nat) : Int) else a3) ≤ (((List.length a0) : Nat) : Int))) then
            (slices_Clone_byte_byte.f (List.drop (Int.toNat (if (((List.length a0) : Nat) : Int) < a3 then (((List.length a0) : Nat) : Int) else a3)) a0)).bind fun t16 =>
            some (t15, t16, a1, a2, none)
          else none
        else none
def pipe_Read.R (r : TY0) : Tm := .tup [.one (.fs (.int .u8) r.1 false), .agg [.c (.fs (.int .u8) r.2.1 false), .c (.sc (.int .i64 r.2.2.1)), .c (.sc (.int .i64 r.2.2.2.1))], .one (.err r.2.2.2.2)]
theorem pipe_Read.fun_ {a0 : (List Int)} {a1 : Int} {a2 : Int} {a3 : Int} {r : TY0} (h : pipe_Read.f a0 a1 a2 a3 = some r) : Fun cfg 9 [.agg [.c (.fs (.int .u8) a0 false), .c (.sc (.int .i64 a1)), .c (.sc (.int .i64 a2))], .one (.sc (.int .i64 a3))] [] (pipe_Read.R r) [] := by
  unfold pipe_Read.f at h
  refine fun_of_run cfg_ok (f := 9) (fn := Tryd.f9) Tryd.func9 rfl (by kernel_rfl) (rs := [.tmp 4, .cell 5 25, .tmp 6]) rfl (nt := 53) rfl (l := fin) (k := (.call true [] ((Option Int)) (fun t1 => pipe_Check.R t1) (fun t1 => (.br (.one true (.one true (.one true (.adj [] (.adj [] (.adj [.co 0 true [(.int .u8)], .co 1 true [(.int .u8)], .drop 0] .nil)))))) (.one false (.one false (.br (.adj [] (.adj [] (.adj [.co 0 true [(.int .u8)], .co 1 true [(.int .u8)], .drop 0] .nil))) (.br (.one true (.one true (.one true (.one true (.br (.one true (.one true (.one true (.br (.adj [] (.adj [] (.adj [.co 0 true [(.int .u8)], .co 1 true [(.int .u8)], .drop 0] .nil))) (.call true [] ((List Int)) (fun t7 => slices_Clone_byte_byte.R t7) (fun t7 => (.call true [] ((List Int)) (fun t8 => slices_Clone_byte_byte.R t8) (fun t8 => (.dr [(0, dN), (2, dN), (1, dN), (3, dN), (4, dN)] (.adj [] (.adj [.drop 0] .nil))))))))))) (.one false (.one false (.one false (.one false (.call true [] ((List Int)) (fun t11 => slices_Clone_byte_byte.R t11) (fun t11 => (.call true [] ((List Int)) (fun t12 => slices_Clone_byte_byte.R t12) (fun t12 => (.dr [(0, dN), (2, dN), (1, dN), (3, dN), (4, dN)] (.adj [] (.adj [.drop 0] .nil)))))))))))))))) (.one false (.one false (.one false (.one false (.one false (.one false (.one false (.one false (.one false (.call true [] ((List Int)) (fun t15 => slices_Clone_byte_byte.R t15) (fun t15 => (.call true [] ((List Int)) (fun t16 => slices_Clone_byte_byte.R t16) (fun t16 => (.dr [(0, dN), (2, dN), (1, dN), (3, dN), (4, dN)] (.adj [] (.adj [.drop 0] .nil)))))))))))))))))))))))) (to_goal (q := (True) ∧ (∃ t1 : (Option Int), (Fun cfg 16 [.agg [.c (.fs (.int .u8) a0 false), .c (.sc (.int .i64 a1)), .c (.sc (.int .i64 a2))]] [] (pipe_Check.R t1) [] ∧ True) ∧ (True) ∧ (((!(Option.isNone t1)) = false → ((!(Option.isNone t1)) = false ∧ (True) ∧ ((!(Option.isNone t1)) = false ∧ (((decide (a3 < (0 : Int))) = true → (True ∧ (True) ∧ (True ∧ (((True) ∧ True) ∧ ((True) ∧ (True) ∧ (True) ∧ True) ∧ (.tup [.one (.fs (.int .u8) ([] : List Int) false), .agg [.c (.fs (.int .u8) ([] : List Int) false), .c (.sc (.int .i64 (0 : Int))), .c (.sc (.int .i64 (0 : Int)))], .one (.err (some (22 : Int)))] : Tm) = pipe_Read.R r ∧ ([] : List Box) = [])))) ∧ ((decide (a3 < (0 : Int))) = false → (True) ∧ (((decide (a3 > (0 : Int))) = true → ((decide (a3 > (0 : Int))) = true ∧ (True) ∧ ((decide (a3 > (0 : Int))) = true ∧ (True) ∧ ((decide (a3 > (0 : Int))) = true ∧ (True) ∧ ((decide (a3 > (0 : Int))) = true ∧ ((((((List.length a0) : Nat) : Int) == (0 : Int)) = true → (((((List.length a0) : Nat) : Int) == (0 : Int)) = true ∧ (True) ∧ (((((List.length a0) : Nat) : Int) == (0 : Int)) = true ∧ (True) ∧ (((((List.length a0) : Nat) : Int) == (0 : Int)) = true ∧ (((decide (a2 > (0 : Int))) = true → (True ∧ (True) ∧ (True ∧ (((True) ∧ True) ∧ ((True) ∧ (True) ∧ (True) ∧ True) ∧ (.tup [.one (.fs (.int .u8) ([] : List Int) false), .agg [.c (.fs (.int .u8) ([] : List Int) false), .c (.sc (.int .i64 (0 : Int))), .c (.sc (.int .i64 (0 : Int)))], .one (.err (some (11 : Int)))] : Tm) = pipe_Read.R r ∧ ([] : List Box) = [])))) ∧ ((decide (a2 > (0 : Int))) = false → (True) ∧ (True) ∧ (True) ∧ (True) ∧ (0 ≤ (if (((List.length a0) : Nat) : Int) < a3 then (((List.length a0) : Nat) : Int) else a3) ∧ (if (((List.length a0) : Nat) : Int) < a3 then (((List.length a0) : Nat) : Int) else a3) ≤ (((List.length a0) : Nat) : Int)) ∧ (∃ t7 : (List Int), (Fun cfg 21 [.one (.fs (.int .u8) (List.take (Int.toNat (if (((List.length a0) : Nat) : Int) < a3 then (((List.length a0) : Nat) : Int) else a3)) a0) false)] [] (slices_Clone_byte_byte.R t7) [] ∧ True) ∧ (True) ∧ ((True) ∧ ((0 ≤ (if (((List.length a0) : Nat) : Int) < a3 then (((List.length a0) : Nat) : Int) else a3) ∧ (if (((List.length a0) : Nat) : Int) < a3 then (((List.length a0) : Nat) : Int) else a3) ≤ (((List.length a0) : Nat) : Int)))) ∧ (∃ t8 : (List Int), (Fun cfg 21 [.one (.fs (.int .u8) (List.drop (Int.toNat (if (((List.length a0) : Nat) : Int) < a3 then (((List.length a0) : Nat) : Int) else a3)) a0) false)] [] (slices_Clone_byte_byte.R t8) [] ∧ True) ∧ (True) ∧ (True) ∧ (True) ∧ (True ∧ (((True) ∧ True) ∧ ((True) ∧ True) ∧ (.tup [.one (.fs (.int .u8) t7 false), .agg [.c (.fs (.int .u8) t8 false), .c (.sc (.int .i64 a1)), .c (.sc (.int .i64 a2))], .one (.err none)] : Tm) = pipe_Read.R r ∧ ([] : List Box) = [])))))))))) ∧ (((((List.length a0) : Nat) : Int) == (0 : Int)) = false → (((((List.length a0) : Nat) : Int) == (0 : Int)) = false ∧ (((((List.length a0) : Nat) : Int) == (0 : Int)) = false ∧ (((((List.length a0) : Nat) : Int) == (0 : Int)) = false ∧ (false = false ∧ (True) ∧ (True) ∧ (True) ∧ (True) ∧ (0 ≤ (if (((List.length a0) : Nat) : Int) < a3 then (((List.length a0) : Nat) : Int) else a3) ∧ (if (((List.length a0) : Nat) : Int) < a3 then (((List.length a0) : Nat) : Int) else a3) ≤ (((List.length a0) : Nat) : Int)) ∧ (∃ t11 : (List Int), (Fun cfg 21 [.one (.fs (.int .u8) (List.take (Int.toNat (if (((List.length a0) : Nat) : Int) < a3 then (((List.length a0) : Nat) : Int) else a3)) a0) false)] [] (slices_Clone_byte_byte.R t11) [] ∧ True) ∧ (True) ∧ ((True) ∧ ((0 ≤ (if (((List.length a0) : Nat) : Int) < a3 then (((List.length a0) : Nat) : Int) else a3) ∧ (if (((List.length a0) : Nat) : Int) < a3 then (((List.length a0) : Nat) : Int) else a3) ≤ (((List.length a0) : Nat) : Int)))) ∧ (∃ t12 : (List Int), (Fun cfg 21 [.one (.fs (.int .u8) (List.drop (Int.toNat (if (((List.length a0) : Nat) : Int) < a3 then (((List.length a0) : Nat) : Int) else a3)) a0) false)] [] (slices_Clone_byte_byte.R t12) [] ∧ True) ∧ (True) ∧ (True) ∧ (True) ∧ (True ∧ (((True) ∧ True) ∧ ((True) ∧ True) ∧ (.tup [.one (.fs (.int .u8) t11 false), .agg [.c (.fs (.int .u8) t12 false), .c (.sc (.int .i64 a1)), .c (.sc (.int .i64 a2))], .one (.err none)] : Tm) = pipe_Read.R r ∧ ([] : List Box) = []))))))))))))))) ∧ ((decide (a3 > (0 : Int))) = false → ((decide (a3 > (0 : Int))) = false ∧ ((decide (a3 > (0 : Int))) = false ∧ ((decide (a3 > (0 : Int))) = false ∧ ((decide (a3 > (0 : Int))) = false ∧ (false = false ∧ (false = false ∧ (false = false ∧ (false = false ∧ (false = false ∧ (True) ∧ (True) ∧ (True) ∧ (True) ∧ (0 ≤ (if (((List.length a0) : Nat) : Int) < a3 then (((List.length a0) : Nat) : Int) else a3) ∧ (if (((List.length a0) : Nat) : Int) < a3 then (((List.length a0) : Nat) : Int) else a3) ≤ (((List.length a0) : Nat) : Int)) ∧ (∃ t15 : (List Int), (Fun cfg 21 [.one (.fs (.int .u8) (List.take (Int.toNat (if (((List.length a0) : Nat) : Int) < a3 then (((List.length a0) : Nat) : Int) else a3)) a0) false)] [] (slices_Clone_byte_byte.R t15) [] ∧ True) ∧ (True) ∧ ((True) ∧ ((0 ≤ (if (((List.length a0) : Nat) : Int) < a3 then (((List.length a0) : Nat) : Int) else a3) ∧ (if (((List.length a0) : Nat) : Int) < a3 then (((List.length a0) : Nat) : Int) else a3) ≤ (((List.length a0) : Nat) : Int)))) ∧ (∃ t16 : (List Int), (Fun cfg 21 [.one (.fs (.int .u8) (List.drop (Int.toNat (if (((List.length a0) : Nat) : Int) < a3 then (((List.length a0) : Nat) : Int) else a3)) a0) false)] [] (slices_Clone_byte_byte.R t16) [] ∧ True) ∧ (True) ∧ (True) ∧ (True) ∧ (True ∧ (((True) ∧ True) ∧ ((True) ∧ True) ∧ (.tup [.one (.fs (.int .u8) t15 false), .agg [.c (.fs (.int .u8) t16 false), .c (.sc (.int .i64 a1)), .c (.sc (.int .i64 a2))], .one (.err none)] : Tm) = pipe_Read.R r ∧ ([] : List Box) = [])))))))))))))))))))) ∧ ((!(Option.isNone t1)) = true → ((!(Option.isNone t1)) = true ∧ ((!(Option.isNone t1)) = true ∧ (true = true ∧ (True ∧ (True) ∧ (True ∧ (((True) ∧ True) ∧ ((True) ∧ (True) ∧ (True) ∧ True) ∧ (.tup [.one (.fs (.int .u8) ([] : List Int) false), .agg [.c (.fs (.int .u8) ([] : List Int) false), .c (.sc (.int .i64 (0 : Int))), .c (.sc (.int .i64 (0 : Int)))], .one (.err (some (22 : Int)))] : Tm) = pipe_Read.R r ∧ ([] : List Box) = [])))))))))) (by kernel_rfl) ?_)
  refine ⟨trivial, ?_⟩
  obtain ⟨t1, ht1, h⟩ := of_bind h
  refine ⟨t1, ⟨pipe_Check.fun_ ht1, trivial⟩, ?_⟩
  refine ⟨trivial, ?_⟩
  refine ⟨fun b2 => ?_, fun b2 => ?_⟩
  · rw [if_neg (not_not_intro (none_t (not_f b2)))] at h
    refine ⟨b2, ?_⟩
    refine ⟨trivial, ?_⟩
    refine ⟨b2, ?_⟩
    refine ⟨fun b3 => ?_, fun b3 => ?_⟩
    · rw [if_pos (of_decide_eq_true b3)] at h
      refine ⟨trivial, ?_⟩
      refine ⟨trivial, ?_⟩
      refine ⟨trivial, ?_⟩
      obtain rfl := Option.some.inj h
      exact ⟨⟨trivial, trivial⟩, ⟨trivial, trivial, trivial, trivial⟩, rfl, rfl⟩
    · rw [if_neg (of_decide_eq_false b3)] at h
      refine ⟨trivial, ?_⟩
      refine ⟨fun b4 => ?_, fun b4 => ?_⟩
      · rw [if_pos (of_decide_eq_true b4)] at h
        refine ⟨b4, ?_⟩
        refine ⟨trivial, ?_⟩
        refine ⟨b4, ?_⟩
        refine ⟨trivial, ?_⟩
        refine ⟨b4, ?_⟩
        refine ⟨trivial, ?_⟩
        refine ⟨b4, ?_⟩
        refine ⟨fun b5 => ?_, fun b5 => ?_⟩
        · rw [if_pos (beq_t b5)] at h
          refine ⟨b5, ?_⟩
          refine ⟨trivial, ?_⟩
          refine ⟨b5, ?_⟩
          refine ⟨trivial, ?_⟩
          refine ⟨b5, ?_⟩
          refine ⟨fun b6 => ?_, fun b6 => ?_⟩
          · rw [if_pos (of_decide_eq_true b6)] at h
            refine ⟨trivial, ?_⟩
            refine ⟨trivial, ?_⟩
            refine ⟨trivial, ?_⟩
            obtain rfl := Option.some.inj h
            exact ⟨⟨trivial, trivial⟩, ⟨trivial, trivial, trivial, trivial⟩, rfl, rfl⟩
          · rw [if_neg (of_decide_eq_false b6)] at h
            refine ⟨trivial, ?_⟩
            refine ⟨trivial, ?_⟩
            refine ⟨trivial, ?_⟩
            refine ⟨trivial, ?_⟩
            obtain ⟨g10, h⟩ := of_guard h
            refine ⟨g10, ?_⟩
            obtain ⟨t7, ht7, h⟩ := of_bind h
            refine ⟨t7, ⟨slices_Clone_byte_byte.fun_ ht7, trivial⟩, ?_⟩
            refine ⟨trivial, ?_⟩
            obtain ⟨g9, h⟩ := of_guard h
            refine ⟨g9, ?_⟩
            obtain ⟨t8, ht8, h⟩ := of_bind h
            refine ⟨t8, ⟨slices_Clone_byte_byte.fun_ ht8, trivial⟩, ?_⟩
            refine ⟨trivial, ?_⟩
            refine ⟨trivial, trivial, ?_⟩
            refine ⟨trivial, ?_⟩
            obtain rfl := Option.some.inj h
            exact ⟨⟨trivial, trivial⟩, ⟨trivial, trivial⟩, rfl, rfl⟩
        · rw [if_neg (beq_f b5)] at h
          refine ⟨b5, ?_⟩
          refine ⟨b5, ?_⟩
          refine ⟨b5, ?_⟩
          refine ⟨rfl, ?_⟩
          refine ⟨trivial, ?_⟩
          refine ⟨trivial, ?_⟩
          refine ⟨trivial, ?_⟩
          refine ⟨trivial, ?_⟩
          obtain ⟨g14, h⟩ := of_guard h
          refine ⟨g14, ?_⟩
          obtain ⟨t11, ht11, h⟩ := of_bind h
          refine ⟨t11, ⟨slices_Clone_byte_byte.fun_ ht11, trivial⟩, ?_⟩
          refine ⟨trivial, ?_⟩
          obtain ⟨g13, h⟩ := of_guard h
          refine ⟨g13, ?_⟩
          obtain ⟨t12, ht12, h⟩ := of_bind h
          refine ⟨t12, ⟨slices_Clone_byte_byte.fun_ ht12, trivial⟩, ?_⟩
          refine ⟨trivial, ?_⟩
          refine ⟨trivial, trivial, ?_⟩
          refine ⟨trivial, ?_⟩
          obtain rfl := Option.some.inj h
          exact ⟨⟨trivial, trivial⟩, ⟨trivial, trivial⟩, rfl, rfl⟩
      · rw [if_neg (of_decide_eq_false b4)] at h
        refine ⟨b4, ?_⟩
        refine ⟨b4, ?_⟩
        refine ⟨b4, ?_⟩
        refine ⟨b4, ?_⟩
        refine ⟨rfl, ?_⟩
        refine ⟨rfl, ?_⟩
        refine ⟨rfl, ?_⟩
        refine ⟨rfl, ?_⟩
        refine ⟨rfl, ?_⟩
        refine ⟨trivial, ?_⟩
        refine ⟨trivial, ?_⟩
        refine ⟨trivial, ?_⟩
        refine ⟨trivial, ?_⟩
        obtain ⟨g18, h⟩ := of_guard h
        refine ⟨g18, ?_⟩
        obtain ⟨t15, ht15, h⟩ := of_bind h
        refine ⟨t15, ⟨slices_Clone_byte_byte.fun_ ht15, trivial⟩, ?_⟩
        refine ⟨trivial, ?_⟩
        obtain ⟨g17, h⟩ := of_guard h
        refine ⟨g17, ?_⟩
        obtain ⟨t16, ht16, h⟩ := of_bind h
        refine ⟨t16, ⟨slices_Clone_byte_byte.fun_ ht16, trivial⟩, ?_⟩
        refine ⟨trivial, ?_⟩
        refine ⟨trivial, trivial, ?_⟩
        refine ⟨trivial, ?_⟩
        obtain rfl := Option.some.inj h
        exact ⟨⟨trivial, trivial⟩, ⟨trivial, trivial⟩, rfl, rfl⟩
  · rw [if_pos (none_f (not_t b2))] at h
    refine ⟨b2, ?_⟩
    refine ⟨b2, ?_⟩
    refine ⟨rfl, ?_⟩
    refine ⟨trivial, ?_⟩
    refine ⟨trivial, ?_⟩
    refine ⟨trivial, ?_⟩
    obtain rfl := Option.some.inj h
    exact ⟨⟨trivial, trivial⟩, ⟨trivial, trivial, trivial, trivial⟩, rfl, rfl⟩
/-! halter/halterlaw18.sure -/
def halterlaw18_sure.f : Option Bool :=
  (pipe_Write.f ([] : List Int) (1 : Int) (1 : Int) [(97 : Int), (98 : Int), (99 : Int)]).bind fun t1 =>
  (pipe_Read.f t1.2.1 t1.2.2.1 t1.2.2.2.1 (2 : Int)).bind fun t2 =>
  (pipe_Read.f ([] : List Int) (0 : Int) (1 : Int) (1 : Int)).bind fun t3 =>
  (pipe_Write.f ([] : List Int) (0 : Int) (1 : Int) ([] : List Int)).bind fun t4 =>
  if t1.2.2.2.2 = none then
    if t2.2.2.2.2 = none then
      if t1.1 = (3 : Int) then
        if (strOfNums t2.1) = (⟨#[97, 98]⟩ : ByteArray) then
          if (strOfNums t2.2.1) = (⟨#[99]⟩ : ByteArray) then
            (num.f t3.2.2.2.2).bind fun t10 =>
            if t10 = (11 : Int) then
              (num.f t4.2.2.2.2).bind fun t12 =>
              some (t12 == (32 : Int))
            else
              some false
          else
            some false
        else
          some false
      else
        some false
    else
      some false
  else
    some false
def halterlaw18_sure.R (r : Bool) : Tm := .v (.one (.sc (.bool r)))
theorem halterlaw18_sure.fun_ {r : Bool} (h : halterlaw18_sure.f = some r) : Fun cfg 10 [] [] (halterlaw18_sure.R r) [] := by
  unfold halterlaw18_sure.f at h
  refine fun_of_run cfg_ok (f := 10) (fn := Tryd.f10) Tryd.func10 rfl (by kernel_rfl) (rs := [.tmp 0]) rfl (nt := 70) rfl (l := fin) (k := (.call true [(.int .u8)] (TY1) (fun t1 => pipe_Write.R t1) (fun t1 => (.call true [] (TY0) (fun t2 => pipe_Read.R t2) (fun t2 => (.call true [(.int .u8)] (TY0) (fun t3 => pipe_Read.R t3) (fun t3 => (.call true [(.int .u8), (.int .u8)] (TY1) (fun t4 => pipe_Write.R t4) (fun t4 => (.br (.one true (.one true (.br (.one true (.one true (.br (.one true (.d (.b false) (.one true (.one true (.br (.one true (.one true (.d (.b false) (.one true (.one true (.br (.one true (.call true [] (Int) (fun t10 => num.R t10) (fun t10 => (.one true (.one true (.br (.one true (.call true [] (Int) (fun t12 => num.R t12) (fun t12 => (.one true (.one true (.adj [] (.adj [.drop 0] .nil))))))) (.one false (.one false (.one false (.adj [] (.adj [.drop 0] .nil))))))))))) (.one false (.one false (.one false (.one false (.one false (.one false (.one false (.adj [] (.adj [.drop 0] .nil))))))))))))))) (.one false (.one false (.one false (.one false (.one false (.one false (.one false (.one false (.one false (.one false (.one false (.one false (.adj [] (.adj [.drop 0] .nil))))))))))))))))))) (.one false (.one false (.one false (.one false (.one false (.one false (.one false (.one false (.one false (.one false (.one false (.one false (.one false (.one false (.one false (.one false (.adj [] (.adj [.drop 0] .nil))))))))))))))))))))) (.one false (.one false (.one false (.one false (.one false (.one false (.one false (.one false (.one false (.one false (.one false (.one false (.one false (.one false (.one false (.one false (.one false (.one false (.one false (.adj [] (.adj [.drop 0] .nil)))))))))))))))))))))))) (.one false (.one false (.one false (.one false (.one false (.one false (.one false (.one false (.one false (.one false (.one false (.one false (.one false (.one false (.one false (.one false (.one false (.one false (.one false (.one false (.one false (.one false (.adj [] (.adj [.drop 0] .nil)))))))))))))))))))))))))))))))))) (to_goal (q := (0 < 3) ∧ (∃ t1 : TY1, ((0 = 0 ∧ 3 = 3) ∧ Fun cfg 7 [.agg [.c (.fs (.int .u8) ([] : List Int) false), .c (.sc (.int .i64 (1 : Int))), .c (.sc (.int .i64 (1 : Int)))], .one (.fs (.int .u8) [(97 : Int), (98 : Int), (99 : Int)] false)] [] (pipe_Write.R t1) [] ∧ True) ∧ (True) ∧ (True) ∧ (∃ t2 : TY0, (Fun cfg 9 [.agg [.c (.fs (.int .u8) t1.2.1 false), .c (.sc (.int .i64 (p2 t1))), .c (.sc (.int .i64 (p3 t1)))], .one (.sc (.int .i64 (2 : Int)))] [] (pipe_Read.R t2) [] ∧ True) ∧ (True) ∧ (∃ t3 : TY0, (Fun cfg 9 [.agg [.c (.fs (.int .u8) ([] : List Int) false), .c (.sc (.int .i64 (0 : Int))), .c (.sc (.int .i64 (1 : Int)))], .one (.sc (.int .i64 (1 : Int)))] [] (pipe_Read.R t3) [] ∧ True) ∧ (True) ∧ (∃ t4 : TY1, (Fun cfg 7 [.agg [.c (.fs (.int .u8) ([] : List Int) false), .c (.sc (.int .i64 (0 : Int))), .c (.sc (.int .i64 (1 : Int)))], .one (.fs (.int .u8) ([] : List Int) false)] [] (pipe_Write.R t4) [] ∧ True) ∧ (True) ∧ (True) ∧ (((Option.isNone (z4 t1)) = true → ((Option.isNone (z4 t1)) = true ∧ (True) ∧ ((Option.isNone (z4 t1)) = true ∧ (((Option.isNone (z4 t2)) = true → ((Option.isNone (z4 t2)) = true ∧ (True) ∧ ((Option.isNone (z4 t2)) = true ∧ (((t1.1 == (3 : Int)) = true → ((t1.1 == (3 : Int)) = true ∧ (True) ∧ ((t1.1 == (3 : Int)) = true ∧ (True) ∧ ((t1.1 == (3 : Int)) = true ∧ ((((strOfNums t2.1).toList == (⟨#[97, 98]⟩ : ByteArray).toList) = true → (((strOfNums t2.1).toList == (⟨#[97, 98]⟩ : ByteArray).toList) = true ∧ (True) ∧ (((strOfNums t2.1).toList == (⟨#[97, 98]⟩ : ByteArray).toList) = true ∧ (True) ∧ (((strOfNums t2.1).toList == (⟨#[97, 98]⟩ : ByteArray).toList) = true ∧ (True) ∧ (((strOfNums t2.1).toList == (⟨#[97, 98]⟩ : ByteArray).toList) = true ∧ ((((strOfNums t2.2.1).toList == (⟨#[99]⟩ : ByteArray).toList) = true → (((strOfNums t2.2.1).toList == (⟨#[99]⟩ : ByteArray).toList) = true ∧ (∃ t10 : Int, (Fun cfg 8 [.one (.err (z4 t3))] [] (num.R t10) [] ∧ True) ∧ (((strOfNums t2.2.1).toList == (⟨#[99]⟩ : ByteArray).toList) = true ∧ (True) ∧ (((strOfNums t2.2.1).toList == (⟨#[99]⟩ : ByteArray).toList) = true ∧ (((t10 == (11 : Int)) = true → ((t10 == (11 : Int)) = true ∧ (∃ t12 : Int, (Fun cfg 8 [.one (.err (z4 t4))] [] (num.R t12) [] ∧ True) ∧ ((t10 == (11 : Int)) = true ∧ (True) ∧ ((t10 == (11 : Int)) = true ∧ (True ∧ ((True) ∧ ((True) ∧ True) ∧ (.v (.one (.sc (.bool (t12 == (32 : Int))))) : Tm) = halterlaw18_sure.R r ∧ ([] : List Box) = []))))))) ∧ ((t10 == (11 : Int)) = false → ((t10 == (11 : Int)) = false ∧ ((t10 == (11 : Int)) = false ∧ ((t10 == (11 : Int)) = false ∧ (True ∧ ((True) ∧ ((True) ∧ True) ∧ (.v (.one (.sc (.bool false))) : Tm) = halterlaw18_sure.R r ∧ ([] : List Box) = [])))))))))))) ∧ (((strOfNums t2.2.1).toList == (⟨#[99]⟩ : ByteArray).toList) = false → (((strOfNums t2.2.1).toList == (⟨#[99]⟩ : ByteArray).toList) = false ∧ (((strOfNums t2.2.1).toList == (⟨#[99]⟩ : ByteArray).toList) = false ∧ (((strOfNums t2.2.1).toList == (⟨#[99]⟩ : ByteArray).toList) = false ∧ (false = false ∧ (false = false ∧ (false = false ∧ (false = false ∧ (True ∧ ((True) ∧ ((True) ∧ True) ∧ (.v (.one (.sc (.bool false))) : Tm) = halterlaw18_sure.R r ∧ ([] : List Box) = [])))))))))))))))) ∧ (((strOfNums t2.1).toList == (⟨#[97, 98]⟩ : ByteArray).toList) = false → (((strOfNums t2.1).toList == (⟨#[97, 98]⟩ : ByteArray).toList) = false ∧ (((strOfNums t2.1).toList == (⟨#[97, 98]⟩ : ByteArray).toList) = false ∧ (((strOfNums t2.1).toList == (⟨#[97, 98]⟩ : ByteArray).toList) = false ∧ (((strOfNums t2.1).toList == (⟨#[97, 98]⟩ : ByteArray).toList) = false ∧ (false = false ∧ (false = false ∧ (false = false ∧ (false = false ∧ (false = false ∧ (false = false ∧ (false = false ∧ (false = false ∧ (True ∧ ((True) ∧ ((True) ∧ True) ∧ (.v (.one (.sc (.bool false))) : Tm) = halterlaw18_sure.R r ∧ ([] : List Box) = [])))))))))))))))))))) ∧ ((t1.1 == (3 : Int)) = false → ((t1.1 == (3 : Int)) = false ∧ ((t1.1 == (3 : Int)) = false ∧ ((t1.1 == (3 : Int)) = false ∧ (false = false ∧ (false = false ∧ (false = false ∧ (false = false ∧ (false = false ∧ (false = false ∧ (false = false ∧ (false = false ∧ (false = false ∧ (false = false ∧ (false = false ∧ (false = false ∧ (false = false ∧ (True ∧ ((True) ∧ ((True) ∧ True) ∧ (.v (.one (.sc (.bool false))) : Tm) = halterlaw18_sure.R r ∧ ([] : List Box) = []))))))))))))))))))))))) ∧ ((Option.isNone (z4 t2)) = false → ((Option.isNone (z4 t2)) = false ∧ ((Option.isNone (z4 t2)) = false ∧ (false = false ∧ (false = false ∧ (false = false ∧ (false = false ∧ (false = false ∧ (false = false ∧ (false = false ∧ (false = false ∧ (false = false ∧ (false = false ∧ (false = false ∧ (false = false ∧ (false = false ∧ (false = false ∧ (false = false ∧ (false = false ∧ (false = false ∧ (True ∧ ((True) ∧ ((True) ∧ True) ∧ (.v (.one (.sc (.bool false))) : Tm) = halterlaw18_sure.R r ∧ ([] : List Box) = [])))))))))))))))))))))))))) ∧ ((Option.isNone (z4 t1)) = false → ((Option.isNone (z4 t1)) = false ∧ ((Option.isNone (z4 t1)) = false ∧ (false = false ∧ (false = false ∧ (false = false ∧ (false = false ∧ (false = false ∧ (false = false ∧ (false = false ∧ (false = false ∧ (false = false ∧ (false = false ∧ (false = false ∧ (false = false ∧ (false = false ∧ (false = false ∧ (false = false ∧ (false = false ∧ (false = false ∧ (false = false ∧ (false = false ∧ (false = false ∧ (True ∧ ((True) ∧ ((True) ∧ True) ∧ (.v (.one (.sc (.bool false))) : Tm) = halterlaw18_sure.R r ∧ ([] : List Box) = []))))))))))))))))))))))))))))))) (by kernel_rfl) ?_)
  refine ⟨(by decide), ?_⟩
  obtain ⟨t1, ht1, h⟩ := of_bind h
  refine ⟨t1, ⟨⟨rfl, rfl⟩, pipe_Write.fun_ ht1, trivial⟩, ?_⟩
  refine ⟨trivial, ?_⟩
  refine ⟨trivial, ?_⟩
  obtain ⟨t2, ht2, h⟩ := of_bind h
  refine ⟨t2, ⟨pipe_Read.fun_ ht2, trivial⟩, ?_⟩
  refine ⟨trivial, ?_⟩
  obtain ⟨t3, ht3, h⟩ := of_bind h
  refine ⟨t3, ⟨pipe_Read.fun_ ht3, trivial⟩, ?_⟩
  refine ⟨trivial, ?_⟩
  obtain ⟨t4, ht4, h⟩ := of_bind h
  refine ⟨t4, ⟨pipe_Write.fun_ ht4, trivial⟩, ?_⟩
  refine ⟨trivial, ?_⟩
  refine ⟨trivial, ?_⟩
  refine ⟨fun b5 => ?_, fun b5 => ?_⟩
  · rw [if_pos (none_t b5)] at h
    refine ⟨b5, ?_⟩
    refine ⟨trivial, ?_⟩
    refine ⟨b5, ?_⟩
    refine ⟨fun b6 => ?_, fun b6 => ?_⟩
    · rw [if_pos (none_t b6)] at h
      refine ⟨b6, ?_⟩
      refine ⟨trivial, ?_⟩
      refine ⟨b6, ?_⟩
      refine ⟨fun b7 => ?_, fun b7 => ?_⟩
      · rw [if_pos (beq_t b7)] at h
        refine ⟨b7, ?_⟩
        refine ⟨trivial, ?_⟩
        refine ⟨b7, ?_⟩
        refine ⟨trivial, ?_⟩
        refine ⟨b7, ?_⟩
        refine ⟨fun b8 => ?_, fun b8 => ?_⟩
        · rw [if_pos (str_t b8)] at h
          refine ⟨b8, ?_⟩
          refine ⟨trivial, ?_⟩
          refine ⟨b8, ?_⟩
          refine ⟨trivial, ?_⟩
          refine ⟨b8, ?_⟩
          refine ⟨trivial, ?_⟩
          refine ⟨b8, ?_⟩
          refine ⟨fun b9 => ?_, fun b9 => ?_⟩
          · rw [if_pos (str_t b9)] at h
            refine ⟨b9, ?_⟩
            obtain ⟨t10, ht10, h⟩ := of_bind h
            refine ⟨t10, ⟨num.fun_ ht10, trivial⟩, ?_⟩
            refine ⟨b9, ?_⟩
            refine ⟨trivial, ?_⟩
            refine ⟨b9, ?_⟩
            refine ⟨fun b11 => ?_, fun b11 => ?_⟩
            · rw [if_pos (beq_t b11)] at h
              refine ⟨b11, ?_⟩
              obtain ⟨t12, ht12, h⟩ := of_bind h
              refine ⟨t12, ⟨num.fun_ ht12, trivial⟩, ?_⟩
              refine ⟨b11, ?_⟩
              refine ⟨trivial, ?_⟩
              refine ⟨b11, ?_⟩
              refine ⟨trivial, ?_⟩
              obtain rfl := Option.some.inj h
              exact ⟨trivial, ⟨trivial, trivial⟩, rfl, rfl⟩
            · rw [if_neg (beq_f b11)] at h
              refine ⟨b11, ?_⟩
              refine ⟨b11, ?_⟩
              refine ⟨b11, ?_⟩
              refine ⟨trivial, ?_⟩
              obtain rfl := Option.some.inj h
              exact ⟨trivial, ⟨trivial, trivial⟩, rfl, rfl⟩
          · rw [if_neg (str_f b9)] at h
            refine ⟨b9, ?_⟩
            refine ⟨b9, ?_⟩
            refine ⟨b9, ?_⟩
            refine ⟨rfl, ?_⟩
            refine ⟨rfl, ?_⟩
            refine ⟨rfl, ?_⟩
            refine ⟨rfl, ?_⟩
            refine ⟨trivial, ?_⟩
            obtain rfl := Option.some.inj h
            exact ⟨trivial, ⟨trivial, trivial⟩, rfl, rfl⟩
        · rw [if_neg (str_f b8)] at h
          refine ⟨b8, ?_⟩
          refine ⟨b8, ?_⟩
          refine ⟨b8, ?_⟩
          refine ⟨b8, ?_⟩
          refine ⟨rfl, ?_⟩
          refine ⟨rfl, ?_⟩
          refine ⟨rfl, ?_⟩
          refine ⟨rfl, ?_⟩
          refine ⟨rfl, ?_⟩
          refine ⟨rfl, ?_⟩
          refine ⟨rfl, ?_⟩
          refine ⟨rfl, ?_⟩
          refine ⟨trivial, ?_⟩
          obtain rfl := Option.some.inj h
          exact ⟨trivial, ⟨trivial, trivial⟩, rfl, rfl⟩
      · rw [if_neg (beq_f b7)] at h
        refine ⟨b7, ?_⟩
        refine ⟨b7, ?_⟩
        refine ⟨b7, ?_⟩
        refine ⟨rfl, ?_⟩
        refine ⟨rfl, ?_⟩
        refine ⟨rfl, ?_⟩
        refine ⟨rfl, ?_⟩
        refine ⟨rfl, ?_⟩
        refine ⟨rfl, ?_⟩
        refine ⟨rfl, ?_⟩
        refine ⟨rfl, ?_⟩
        refine ⟨rfl, ?_⟩
        refine ⟨rfl, ?_⟩
        refine ⟨rfl, ?_⟩
        refine ⟨rfl, ?_⟩
        refine ⟨rfl, ?_⟩
        refine ⟨trivial, ?_⟩
        obtain rfl := Option.some.inj h
        exact ⟨trivial, ⟨trivial, trivial⟩, rfl, rfl⟩
    · rw [if_neg (none_f b6)] at h
      refine ⟨b6, ?_⟩
      refine ⟨b6, ?_⟩
      refine ⟨rfl, ?_⟩
      refine ⟨rfl, ?_⟩
      refine ⟨rfl, ?_⟩
      refine ⟨rfl, ?_⟩
      refine ⟨rfl, ?_⟩
      refine ⟨rfl, ?_⟩
      refine ⟨rfl, ?_⟩
      refine ⟨rfl, ?_⟩
      refine ⟨rfl, ?_⟩
      refine ⟨rfl, ?_⟩
      refine ⟨rfl, ?_⟩
      refine ⟨rfl, ?_⟩
      refine ⟨rfl, ?_⟩
      refine ⟨rfl, ?_⟩
      refine ⟨rfl, ?_⟩
      refine ⟨rfl, ?_⟩
      refine ⟨rfl, ?_⟩
      refine ⟨trivial, ?_⟩
      obtain rfl := Option.some.inj h
      exact ⟨trivial, ⟨trivial, trivial⟩, rfl, rfl⟩
  · rw [if_neg (none_f b5)] at h
    refine ⟨b5, ?_⟩
    refine ⟨b5, ?_⟩
    refine ⟨rfl, ?_⟩
    refine ⟨rfl, ?_⟩
    refine ⟨rfl, ?_⟩
    refine ⟨rfl, ?_⟩
    refine ⟨rfl, ?_⟩
    refine ⟨rfl, ?_⟩
    refine ⟨rfl, ?_⟩
    refine ⟨rfl, ?_⟩
    refine ⟨rfl, ?_⟩
    refine ⟨rfl, ?_⟩
    refine ⟨rfl, ?_⟩
    refine ⟨rfl, ?_⟩
    refine ⟨rfl, ?_⟩
    refine ⟨rfl, ?_⟩
    refine ⟨rfl, ?_⟩
    refine ⟨rfl, ?_⟩
    refine ⟨rfl, ?_⟩
    refine ⟨rfl, ?_⟩
    refine ⟨rfl, ?_⟩
    refine ⟨rfl, ?_⟩
    refine ⟨trivial, ?_⟩
    obtain rfl := Option.some.inj h
    exact ⟨trivial, ⟨trivial, trivial⟩, rfl, rfl⟩
/-! halter/halterref18.May -/
def halterref18_May.f (a0 : (List Int)) (a1 : Int) (a2 : Int) : Option Bool :=
  if (((List.length a0) : Nat) : Int) ≤ (64 : Int) then
    if a1 ≥ (0 : Int) then
      if a1 ≤ (1048576 : Int) then
        if a2 ≥ (0 : Int) then
          some (decide (a2 ≤ (1048576 : Int)))
        else
          some false
      else
        some false
    else
      some false
  else
    some false
def halterref18_May.R (r : Bool) : Tm := .v (.one (.sc (.bool r)))
theorem halterref18_May.fun_ {a0 : (List Int)} {a1 : Int} {a2 : Int} {r : Bool} (h : halterref18_May.f a0 a1 a2 = some r) : Fun cfg 17 [.agg [.c (.fs (.int .u8) a0 false), .c (.sc (.int .i64 a1)), .c (.sc (.int .i64 a2))]] [] (halterref18_May.R r) [] := by
  unfold halterref18_May.f at h
  refine fun_of_run cfg_ok (f := 17) (fn := Tryd.f17) Tryd.func17 rfl (by kernel_rfl) (rs := [.tmp 2]) rfl (nt := 27) rfl (l := fin) (k := (.br (.one true (.one true (.one true (.br (.one true (.one true (.one true (.br (.one true (.one true (.one true (.br (.one true (.one true (.one true (.adj [] (.adj [.drop 0] .nil))))) (.one false (.one false (.one false (.adj [] (.adj [.drop 0] .nil))))))))) (.one false (.one false (.one false (.one false (.one false (.one false (.one false (.adj [] (.adj [.drop 0] .nil))))))))))))) (.one false (.one false (.one false (.one false (.one false (.one false (.one false (.one false (.one false (.one false (.one false (.adj [] (.adj [.drop 0] .nil))))))))))))))))) (.one false (.one false (.one false (.one false (.one false (.one false (.one false (.one false (.one false (.one false (.one false (.one false (.one false (.one false (.one false (.adj [] (.adj [.drop 0] .nil))))))))))))))))))) (to_goal (q := (True) ∧ (True) ∧ (True) ∧ (((decide ((((List.length a0) : Nat) : Int) ≤ (64 : Int))) = true → ((decide ((((List.length a0) : Nat) : Int) ≤ (64 : Int))) = true ∧ (True) ∧ ((decide ((((List.length a0) : Nat) : Int) ≤ (64 : Int))) = true ∧ (True) ∧ ((decide ((((List.length a0) : Nat) : Int) ≤ (64 : Int))) = true ∧ (((decide (a1 ≥ (0 : Int))) = true → ((decide (a1 ≥ (0 : Int))) = true ∧ (True) ∧ ((decide (a1 ≥ (0 : Int))) = true ∧ (True) ∧ ((decide (a1 ≥ (0 : Int))) = true ∧ (((decide (a1 ≤ (1048576 : Int))) = true → ((decide (a1 ≤ (1048576 : Int))) = true ∧ (True) ∧ ((decide (a1 ≤ (1048576 : Int))) = true ∧ (True) ∧ ((decide (a1 ≤ (1048576 : Int))) = true ∧ (((decide (a2 ≥ (0 : Int))) = true → ((decide (a2 ≥ (0 : Int))) = true ∧ (True) ∧ ((decide (a2 ≥ (0 : Int))) = true ∧ (True) ∧ ((decide (a2 ≥ (0 : Int))) = true ∧ (True ∧ ((True) ∧ ((True) ∧ True) ∧ (.v (.one (.sc (.bool (decide (a2 ≤ (1048576 : Int)))))) : Tm) = halterref18_May.R r ∧ ([] : List Box) = [])))))) ∧ ((decide (a2 ≥ (0 : Int))) = false → ((decide (a2 ≥ (0 : Int))) = false ∧ ((decide (a2 ≥ (0 : Int))) = false ∧ ((decide (a2 ≥ (0 : Int))) = false ∧ (True ∧ ((True) ∧ ((True) ∧ True) ∧ (.v (.one (.sc (.bool false))) : Tm) = halterref18_May.R r ∧ ([] : List Box) = []))))))))))) ∧ ((decide (a1 ≤ (1048576 : Int))) = false → ((decide (a1 ≤ (1048576 : Int))) = false ∧ ((decide (a1 ≤ (1048576 : Int))) = false ∧ ((decide (a1 ≤ (1048576 : Int))) = false ∧ (false = false ∧ (false = false ∧ (false = false ∧ (false = false ∧ (True ∧ ((True) ∧ ((True) ∧ True) ∧ (.v (.one (.sc (.bool false))) : Tm) = halterref18_May.R r ∧ ([] : List Box) = []))))))))))))))) ∧ ((decide (a1 ≥ (0 : Int))) = false → ((decide (a1 ≥ (0 : Int))) = false ∧ ((decide (a1 ≥ (0 : Int))) = false ∧ ((decide (a1 ≥ (0 : Int))) = false ∧ (false = false ∧ (false = false ∧ (false = false ∧ (false = false ∧ (false = false ∧ (false = false ∧ (false = false ∧ (false = false ∧ (True ∧ ((True) ∧ ((True) ∧ True) ∧ (.v (.one (.sc (.bool false))) : Tm) = halterref18_May.R r ∧ ([] : List Box) = []))))))))))))))))))) ∧ ((decide ((((List.length a0) : Nat) : Int) ≤ (64 : Int))) = false → ((decide ((((List.length a0) : Nat) : Int) ≤ (64 : Int))) = false ∧ ((decide ((((List.length a0) : Nat) : Int) ≤ (64 : Int))) = false ∧ ((decide ((((List.length a0) : Nat) : Int) ≤ (64 : Int))) = false ∧ (false = false ∧ (false = false ∧ (false = false ∧ (false = false ∧ (false = false ∧ (false = false ∧ (false = false ∧ (false = false ∧ (false = false ∧ (false = false ∧ (false = false ∧ (false = false ∧ (True ∧ ((True) ∧ ((True) ∧ True) ∧ (.v (.one (.sc (.bool false))) : Tm) = halterref18_May.R r ∧ ([] : List Box) = [])))))))))))))))))))) (by kernel_rfl) ?_)
  refine ⟨trivial, ?_⟩
  refine ⟨trivial, ?_⟩
  refine ⟨trivial, ?_⟩
  refine ⟨fun b1 => ?_, fun b1 => ?_⟩
  · rw [if_pos (of_decide_eq_true b1)] at h
    refine ⟨b1, ?_⟩
    refine ⟨trivial, ?_⟩
    refine ⟨b1, ?_⟩
    refine ⟨trivial, ?_⟩
    refine ⟨b1, ?_⟩
    refine ⟨fun b2 => ?_, fun b2 => ?_⟩
    · rw [if_pos (of_decide_eq_true b2)] at h
      refine ⟨b2, ?_⟩
      refine ⟨trivial, ?_⟩
      refine ⟨b2, ?_⟩
      refine ⟨trivial, ?_⟩
      refine ⟨b2, ?_⟩
      refine ⟨fun b3 => ?_, fun b3 => ?_⟩
      · rw [if_pos (of_decide_eq_true b3)] at h
        refine ⟨b3, ?_⟩
        refine ⟨trivial, ?_⟩
        refine ⟨b3, ?_⟩
        refine ⟨trivial, ?_⟩
        refine ⟨b3, ?_⟩
        refine ⟨fun b4 => ?_, fun b4 => ?_⟩
        · rw [if_pos (of_decide_eq_true b4)] at h
          refine ⟨b4, ?_⟩
          refine ⟨trivial, ?_⟩
          refine ⟨b4, ?_⟩
          refine ⟨trivial, ?_⟩
          refine ⟨b4, ?_⟩
          refine ⟨trivial, ?_⟩
          obtain rfl := Option.some.inj h
          exact ⟨trivial, ⟨trivial, trivial⟩, rfl, rfl⟩
        · rw [if_neg (of_decide_eq_false b4)] at h
          refine ⟨b4, ?_⟩
          refine ⟨b4, ?_⟩
          refine ⟨b4, ?_⟩
          refine ⟨trivial, ?_⟩
          obtain rfl := Option.some.inj h
          exact ⟨trivial, ⟨trivial, trivial⟩, rfl, rfl⟩
      · rw [if_neg (of_decide_eq_false b3)] at h
        refine ⟨b3, ?_⟩
        refine ⟨b3, ?_⟩
        refine ⟨b3, ?_⟩
        refine ⟨rfl, ?_⟩
        refine ⟨rfl, ?_⟩
        refine ⟨rfl, ?_⟩
        refine ⟨rfl, ?_⟩
        refine ⟨trivial, ?_⟩
        obtain rfl := Option.some.inj h
        exact ⟨trivial, ⟨trivial, trivial⟩, rfl, rfl⟩
    · rw [if_neg (of_decide_eq_false b2)] at h
      refine ⟨b2, ?_⟩
      refine ⟨b2, ?_⟩
      refine ⟨b2, ?_⟩
      refine ⟨rfl, ?_⟩
      refine ⟨rfl, ?_⟩
      refine ⟨rfl, ?_⟩
      refine ⟨rfl, ?_⟩
      refine ⟨rfl, ?_⟩
      refine ⟨rfl, ?_⟩
      refine ⟨rfl, ?_⟩
      refine ⟨rfl, ?_⟩
      refine ⟨trivial, ?_⟩
      obtain rfl := Option.some.inj h
      exact ⟨trivial, ⟨trivial, trivial⟩, rfl, rfl⟩
  · rw [if_neg (of_decide_eq_false b1)] at h
    refine ⟨b1, ?_⟩
    refine ⟨b1, ?_⟩
    refine ⟨b1, ?_⟩
    refine ⟨rfl, ?_⟩
    refine ⟨rfl, ?_⟩
    refine ⟨rfl, ?_⟩
    refine ⟨rfl, ?_⟩
    refine ⟨rfl, ?_⟩
    refine ⟨rfl, ?_⟩
    refine ⟨rfl, ?_⟩
    refine ⟨rfl, ?_⟩
    refine ⟨rfl, ?_⟩
    refine ⟨rfl, ?_⟩
    refine ⟨rfl, ?_⟩
    refine ⟨rfl, ?_⟩
    refine ⟨trivial, ?_⟩
    obtain rfl := Option.some.inj h
    exact ⟨trivial, ⟨trivial, trivial⟩, rfl, rfl⟩
/-! halter/halterref18.Read -/
def halterref18_Read.l0 (a0 : (List Int)) (a1 : Int) (a2 : Int) (a3 : Int) : Nat → (List Int) → (List Int) → Int → Option ((List Int) × (List Int))
  | 0, _, _, _ => none
  | n + 1, x33, x34, x35 =>
    if x35 < (((List.length a0) : Nat) : Int) then
      if x35 < a3 then
        if 0 ≤ x35 ∧ x35 < (((List.length a0) : Nat) : Int) then
          if (0 = 0 ∧ 1 = 1) ∧ 0 = 0 ∧ (List.length x33) = (List.length x33) ∧ (((List.length x33) + 1) * 1 ≤ 140737488355328 ∧ (List.length x33) + 1 ≤ 9223372036854775807) then
            halterref18_Read.l0 a0 a1 a2 a3 n (x33 ++ [(List.getD a0 (Int.toNat x35) (0 : Int))]) x34 (IntKind.wrap .i64 (x35 + (1 : Int)))
          else none
        else none
      else
        if 0 ≤ x35 ∧ x35 < (((List.length a0) : Nat) : Int) then
          if (0 = 0 ∧ 1 = 1) ∧ 0 = 0 ∧ (List.length x34) = (List.length x34) ∧ (((List.length x34) + 1) * 1 ≤ 140737488355328 ∧ (List.length x34) + 1 ≤ 9223372036854775807) then
            halterref18_Read.l0 a0 a1 a2 a3 n x33 (x34 ++ [(List.getD a0 (Int.toNat x35) (0 : Int))]) (IntKind.wrap .i64 (x35 + (1 : Int)))
          else none
        else none
    else
      some (x33, x34)
def halterref18_Read.l0_S (a0 : (List Int)) (a1 : Int) (a2 : Int) (a3 : Int) (x33 : List Int) (x34 : List Int) (x35 : Int) : St := ⟨[.any, .v (.one (.sc (.int .i64 a3))), .v (.one (.ptr 0 ⟨0, 0, 0, 0⟩)), .any, .any, .v (.one (.ptr 1 ⟨0, 0, 0, 0⟩)), .any, .v (.one (.os 2 0 0 1 (List.length x33) none)), .v (.one (.os 3 0 0 1 (List.length x34) none)), .v (.one (.sc (.int .i64 x35))), .any, .any, .any, .any, .any, .any, .any, .any, .any, .any, .any, .any, .any, .any, .any, .any, .any, .any, .any, .any, .any, .any, .any, .any, .any, .any, .any, .any, .any, .any, .any, .any, .any, .any, .any, .any, .any, .any, .any, .any, .any, .any, .any, .any, .any, .any, .any, .any, .any, .any, .any, .any], [.ex false [.c (.fs (.int .u8) a0 false), .c (.sc (.int .i64 a1)), .c (.sc (.int .i64 a2))] 40, .ex false [.c (.sc (.slice none 0 0)), .c (.sc (.int .i64 (0 : Int))), .c (.sc (.int .i64 (0 : Int)))] 40, .gro false (.int .u8) x33 5, .gro false (.int .u8) x34 5], 0⟩
def halterref18_Read.l0_Q (a0 : (List Int)) (a1 : Int) (a2 : Int) (a3 : Int) (t : (List Int) × (List Int)) : Exit → St → Prop := fun e s => e = (.exit 0) ∧ s = ⟨[.any, .any, .v (.one (.ptr 0 ⟨0, 0, 0, 0⟩)), .any, .any, .v (.one (.ptr 1 ⟨0, 0, 0, 0⟩)), .any, .v (.one (.os 2 0 0 1 (List.length t.1) none)), .v (.one (.os 3 0 0 1 (List.length t.2) none)), .any, .any, .any, .any, .any, .any, .any, .any, .any, .any, .any, .any, .any, .any, .any, .any, .any, .any, .any, .any, .any, .any, .any, .any, .any, .any, .any, .any, .any, .any, .any, .any, .any, .any, .any, .any, .any, .any, .any, .any, .any, .any, .any, .any, .any, .any, .any, .any, .any, .any, .any, .any, .any], [.ex false [.c (.fs (.int .u8) a0 false), .c (.sc (.int .i64 a1)), .c (.sc (.int .i64 a2))] 40, .ex false [.c (.sc (.slice none 0 0)), .c (.sc (.int .i64 (0 : Int))), .c (.sc (.int .i64 (0 : Int)))] 40, .gro false (.int .u8) t.1 5, .gro false (.int .u8) t.2 5], 0⟩
theorem halterref18_Read.l0_ok (a0 : (List Int)) (a1 : Int) (a2 : Int) (a3 : Int) : ∀ (n : Nat) (x33 : List Int) (x34 : List Int) (x35 : Int) (r : (List Int) × (List Int)), halterref18_Read.l0 a0 a1 a2 a3 n x33 x34 x35 = some r → TripN cfg (cpath (Tryd.f11.body.getD .skip) [1, 1, 1, 1, 0, 1, 0, 0]) n (halterref18_Read.l0_S a0 a1 a2 a3 x33 x34 x35) (halterref18_Read.l0_Q a0 a1 a2 a3 r) := by
  intro n
  induction n with
  | zero => intro x33 x34 x35 r h; cases h
  | succ n ih =>
    intro x33 x34 x35 r h
    rw [halterref18_Read.l0] at h
    refine TripN.of_run cfg_ok (k := (.br (.br (.d (.b true) (.adj [] (.adj [.keep [1, 2, 5, 7, 8, 9], .drop 4] .nil))) (.d (.b true) (.adj [] (.adj [.keep [1, 2, 5, 7, 8, 9], .drop 4] .nil)))) (.adj [.keep [2, 5, 7, 8], .drop 4] .nil))) (to_goal (q := (True) ∧ (True) ∧ (True) ∧ (((decide (x35 < (((List.length a0) : Nat) : Int))) = true → (True) ∧ (((decide (x35 < a3)) = true → (True) ∧ (0 ≤ x35 ∧ x35 < (((List.length a0) : Nat) : Int)) ∧ (True) ∧ ((0 = 0 ∧ 1 = 1) ∧ 0 = 0 ∧ (List.length x33) = (List.length x33) ∧ (((List.length x33) + 1) * 1 ≤ 140737488355328 ∧ (List.length x33) + 1 ≤ 9223372036854775807)) ∧ (True ∧ (True) ∧ (((True) ∧ (True) ∧ True) ∧ TripN cfg (cpath (Tryd.f11.body.getD .skip) [1, 1, 1, 1, 0, 1, 0, 0]) n (halterref18_Read.l0_S a0 a1 a2 a3 (x33 ++ [(List.getD a0 (Int.toNat x35) (0 : Int))]) x34 (IntKind.wrap .i64 (x35 + (1 : Int)))) (halterref18_Read.l0_Q a0 a1 a2 a3 r)))) ∧ ((decide (x35 < a3)) = false → (True) ∧ (0 ≤ x35 ∧ x35 < (((List.length a0) : Nat) : Int)) ∧ (True) ∧ ((0 = 0 ∧ 1 = 1) ∧ 0 = 0 ∧ (List.length x34) = (List.length x34) ∧ (((List.length x34) + 1) * 1 ≤ 140737488355328 ∧ (List.length x34) + 1 ≤ 9223372036854775807)) ∧ (True ∧ (True) ∧ (((True) ∧ (True) ∧ True) ∧ TripN cfg (cpath (Tryd.f11.body.getD .skip) [1, 1, 1, 1, 0, 1, 0, 0]) n (halterref18_Read.l0_S a0 a1 a2 a3 x33 (x34 ++ [(List.getD a0 (Int.toNat x35) (0 : Int))]) (IntKind.wrap .i64 (x35 + (1 : Int)))) (halterref18_Read.l0_Q a0 a1 a2 a3 r)))))) ∧ ((decide (x35 < (((List.length a0) : Nat) : Int))) = false → (((True) ∧ (True) ∧ True) ∧ halterref18_Read.l0_Q a0 a1 a2 a3 r (.exit 0) ⟨[.any, .any, .v (.one (.ptr 0 ⟨0, 0, 0, 0⟩)), .any, .any, .v (.one (.ptr 1 ⟨0, 0, 0, 0⟩)), .any, .v (.one (.os 2 0 0 1 (List.length x33) none)), .v (.one (.os 3 0 0 1 (List.length x34) none)), .any, .any, .any, .any, .any, .any, .any, .any, .any, .any, .any, .any, .any, .any, .any, .any, .any, .any, .any, .any, .any, .any, .any, .any, .any, .any, .any, .any, .any, .any, .any, .any, .any, .any, .any, .any, .any, .any, .any, .any, .any, .any, .any, .any, .any, .any, .any, .any, .any, .any, .any, .any, .any], [.ex false [.c (.fs (.int .u8) a0 false), .c (.sc (.int .i64 a1)), .c (.sc (.int .i64 a2))] 40, .ex false [.c (.sc (.slice none 0 0)), .c (.sc (.int .i64 (0 : Int))), .c (.sc (.int .i64 (0 : Int)))] 40, .gro false (.int .u8) x33 5, .gro false (.int .u8) x34 5], 0⟩)))) (by kernel_rfl) ?_)
    refine ⟨trivial, ?_⟩
    refine ⟨trivial, ?_⟩
    refine ⟨trivial, ?_⟩
    refine ⟨fun b45 => ?_, fun b45 => ?_⟩
    · rw [if_pos (of_decide_eq_true b45)] at h
      refine ⟨trivial, ?_⟩
      refine ⟨fun b46 => ?_, fun b46 => ?_⟩
      · rw [if_pos (of_decide_eq_true b46)] at h
        refine ⟨trivial, ?_⟩
        obtain ⟨g48, h⟩ := of_guard h
        refine ⟨g48, ?_⟩
        refine ⟨trivial, ?_⟩
        obtain ⟨g47, h⟩ := of_guard h
        refine ⟨g47, ?_⟩
        refine ⟨trivial, ?_⟩
        refine ⟨trivial, ?_⟩
        exact ⟨⟨trivial, trivial, trivial⟩, ih (x33 ++ [(List.getD a0 (Int.toNat x35) (0 : Int))]) x34 (IntKind.wrap .i64 (x35 + (1 : Int))) r h⟩
      · rw [if_neg (of_decide_eq_false b46)] at h
        refine ⟨trivial, ?_⟩
        obtain ⟨g50, h⟩ := of_guard h
        refine ⟨g50, ?_⟩
        refine ⟨trivial, ?_⟩
        obtain ⟨g49, h⟩ := of_guard h
        refine ⟨g49, ?_⟩
        refine ⟨trivial, ?_⟩
        refine ⟨trivial, ?_⟩
        exact ⟨⟨trivial, trivial, trivial⟩, ih x33 (x34 ++ [(List.getD a0 (Int.toNat x35) (0 : Int))]) (IntKind.wrap .i64 (x35 + (1 : Int))) r h⟩
    · rw [if_neg (of_decide_eq_false b45)] at h
      obtain rfl := Option.some.inj h
      exact ⟨⟨trivial, trivial, trivial⟩, rfl, rfl⟩
def halterref18_Read.l1 (a0 : (List Int)) (a1 : Int) (a2 : Int) (a3 : Int) : Nat → (List Int) → (List Int) → Int → Option ((List Int) × (List Int))
  | 0, _, _, _ => none
  | n + 1, x81, x82, x83 =>
    if x83 < (((List.length a0) : Nat) : Int) then
      if x83 < a3 then
        if 0 ≤ x83 ∧ x83 < (((List.length a0) : Nat) : Int) then
          if (0 = 0 ∧ 1 = 1) ∧ 0 = 0 ∧ (List.length x81) = (List.length x81) ∧ (((List.length x81) + 1) * 1 ≤ 140737488355328 ∧ (List.length x81) + 1 ≤ 9223372036854775807) then
            halterref18_Read.l1 a0 a1 a2 a3 n (x81 ++ [(List.getD a0 (Int.toNat x83) (0 : Int))]) x82 (IntKind.wrap .i64 (x83 + (1 : Int)))
          else none
        else none
      else
        if 0 ≤ x83 ∧ x83 < (((List.length a0) : Nat) : Int) then
          if (0 = 0 ∧ 1 = 1) ∧ 0 = 0 ∧ (List.length x82) = (List.length x82) ∧ (((List.length x82) + 1) * 1 ≤ 140737488355328 ∧ (List.length x82) + 1 ≤ 9223372036854775807) then
            halterref18_Read.l1 a0 a1 a2 a3 n x81 (x82 ++ [(List.getD a0 (Int.toNat x83) (0 : Int))]) (IntKind.wrap .i64 (x83 + (1 : Int)))
          else none
        else none
    else
      some (x81, x82)
def halterref18_Read.l1_S (a0 : (List Int)) (a1 : Int) (a2 : Int) (a3 : Int) (x81 : List Int) (x82 : List Int) (x83 : Int) : St := ⟨[.any, .v (.one (.sc (.int .i64 a3))), .v (.one (.ptr 0 ⟨0, 0, 0, 0⟩)), .any, .any, .v (.one (.ptr 1 ⟨0, 0, 0, 0⟩)), .any, .v (.one (.os 2 0 0 1 (List.length x81) none)), .v (.one (.os 3 0 0 1 (List.length x82) none)), .v (.one (.sc (.int .i64 x83))), .any, .any, .any, .any, .any, .any, .any, .any, .any, .any, .any, .any, .any, .any, .any, .any, .any, .any, .any, .any, .any, .any, .any, .any, .any, .any, .any, .any, .any, .any, .any, .any, .any, .any, .any, .any, .any, .any, .any, .any, .any, .any, .any, .any, .any, .any, .any, .any, .any, .any, .any, .any], [.ex false [.c (.fs (.int .u8) a0 false), .c (.sc (.int .i64 a1)), .c (.sc (.int .i64 a2))] 40, .ex false [.c (.sc (.slice none 0 0)), .c (.sc (.int .i64 (0 : Int))), .c (.sc (.int .i64 (0 : Int)))] 40, .gro false (.int .u8) x81 5, .gro false (.int .u8) x82 5], 0⟩
def halterref18_Read.l1_Q (a0 : (List Int)) (a1 : Int) (a2 : Int) (a3 : Int) (t : (List Int) × (List Int)) : Exit → St → Prop := fun e s => e = (.exit 0) ∧ s = ⟨[.any, .any, .v (.one (.ptr 0 ⟨0, 0, 0, 0⟩)), .any, .any, .v (.one (.ptr 1 ⟨0, 0, 0, 0⟩)), .any, .v (.one (.os 2 0 0 1 (List.length t.1) none)), .v (.one (.os 3 0 0 1 (List.length t.2) none)), .any, .any, .any, .any, .any, .any, .any, .any, .any, .any, .any, .any, .any, .any, .any, .any, .any, .any, .any, .any, .any, .any, .any, .any, .any, .any, .any, .any, .any, .any, .any, .any, .any, .any, .any, .any, .any, .any, .any, .any, .any, .any, .any, .any, .any, .any, .any, .any, .any, .any, .any, .any, .any], [.ex false [.c (.fs (.int .u8) a0 false), .c (.sc (.int .i64 a1)), .c (.sc (.int .i64 a2))] 40, .ex false [.c (.sc (.slice none 0 0)), .c (.sc (.int .i64 (0 : Int))), .c (.sc (.int .i64 (0 : Int)))] 40, .gro false (.int .u8) t.1 5, .gro false (.int .u8) t.2 5], 0⟩
theorem halterref18_Read.l1_ok (a0 : (List Int)) (a1 : Int) (a2 : Int) (a3 : Int) : ∀ (n : Nat) (x81 : List Int) (x82 : List Int) (x83 : Int) (r : (List Int) × (List Int)), halterref18_Read.l1 a0 a1 a2 a3 n x81 x82 x83 = some r → TripN cfg (cpath (Tryd.f11.body.getD .skip) [1, 1, 1, 1, 0, 1, 0, 0]) n (halterref18_Read.l1_S a0 a1 a2 a3 x81 x82 x83) (halterref18_Read.l1_Q a0 a1 a2 a3 r) := by
  intro n
  induction n with
  | zero => intro x81 x82 x83 r h; cases h
  | succ n ih =>
    intro x81 x82 x83 r h
    rw [halterref18_Read.l1] at h
    refine TripN.of_run cfg_ok (k := (.br (.br (.d (.b true) (.adj [] (.adj [.keep [1, 2, 5, 7, 8, 9], .drop 4] .nil))) (.d (.b true) (.adj [] (.adj [.keep [1, 2, 5, 7, 8, 9], .drop 4] .nil)))) (.adj [.keep [2, 5, 7, 8], .drop 4] .nil))) (to_goal (q := (True) ∧ (True) ∧ (True) ∧ (((decide (x83 < (((List.length a0) : Nat) : Int))) = true → (True) ∧ (((decide (x83 < a3)) = true → (True) ∧ (0 ≤ x83 ∧ x83 < (((List.length a0) : Nat) : Int)) ∧ (True) ∧ ((0 = 0 ∧ 1 = 1) ∧ 0 = 0 ∧ (List.length x81) = (List.length x81) ∧ (((List.length x81) + 1) * 1 ≤ 140737488355328 ∧ (List.length x81) + 1 ≤ 9223372036854775807)) ∧ (True ∧ (True) ∧ (((True) ∧ (True) ∧ True) ∧ TripN cfg (cpath (Tryd.f11.body.getD .skip) [1, 1, 1, 1, 0, 1, 0, 0]) n (halterref18_Read.l1_S a0 a1 a2 a3 (x81 ++ [(List.getD a0 (Int.toNat x83) (0 : Int))]) x82 (IntKind.wrap .i64 (x83 + (1 : Int)))) (halterref18_Read.l1_Q a0 a1 a2 a3 r)))) ∧ ((decide (x83 < a3)) = false → (True) ∧ (0 ≤ x83 ∧ x83 < (((List.length a0) : Nat) : Int)) ∧ (True) ∧ ((0 = 0 ∧ 1 = 1) ∧ 0 = 0 ∧ (List.length x82) = (List.length x82) ∧ (((List.length x82) + 1) * 1 ≤ 140737488355328 ∧ (List.length x82) + 1 ≤ 9223372036854775807)) ∧ (True ∧ (True) ∧ (((True) ∧ (True) ∧ True) ∧ TripN cfg (cpath (Tryd.f11.body.getD .skip) [1, 1, 1, 1, 0, 1, 0, 0]) n (halterref18_Read.l1_S a0 a1 a2 a3 x81 (x82 ++ [(List.getD a0 (Int.toNat x83) (0 : Int))]) (IntKind.wrap .i64 (x83 + (1 : Int)))) (halterref18_Read.l1_Q a0 a1 a2 a3 r)))))) ∧ ((decide (x83 < (((List.length a0) : Nat) : Int))) = false → (((True) ∧ (True) ∧ True) ∧ halterref18_Read.l1_Q a0 a1 a2 a3 r (.exit 0) ⟨[.any, .any, .v (.one (.ptr 0 ⟨0, 0, 0, 0⟩)), .any, .any, .v (.one (.ptr 1 ⟨0, 0, 0, 0⟩)), .any, .v (.one (.os 2 0 0 1 (List.length x81) none)), .v (.one (.os 3 0 0 1 (List.length x82) none)), .any, .any, .any, .any, .any, .any, .any, .any, .any, .any, .any, .any, .any, .any, .any, .any, .any, .any, .any, .any, .any, .any, .any, .any, .any, .any, .any, .any, .any, .any, .any, .any, .any, .any, .any, .any, .any, .any, .any, .any, .any, .any, .any, .any, .any, .any, .any, .any, .any, .any, .any, .any, .any], [.ex false [.c (.fs (.int .u8) a0 false), .c (.sc (.int .i64 a1)), .c (.sc (.int .i64 a2))] 40, .ex false [.c (.sc (.slice none 0 0)), .c (.sc (.int .i64 (0 : Int))), .c (.sc (.int .i64 (0 : Int)))] 40, .gro false (.int .u8) x81 5, .gro false (.int .u8) x82 5], 0⟩)))) (by kernel_rfl) ?_)
    refine ⟨trivial, ?_⟩
    refine ⟨trivial, ?_⟩
    refine ⟨trivial, ?_⟩
    refine ⟨fun b93 => ?_, fun b93 => ?_⟩
    · rw [if_pos (of_decide_eq_true b93)] at h
      refine ⟨trivial, ?_⟩
      refine ⟨fun b94 => ?_, fun b94 => ?_⟩
      · rw [if_pos (of_decide_eq_true b94)] at h
        refine ⟨trivial, ?_⟩
        obtain ⟨g96, h⟩ := of_guard h
        refine ⟨g96, ?_⟩
        refine ⟨trivial, ?_⟩
        obtain ⟨g95, h⟩ := of_guard h
        refine ⟨g95, ?_⟩
        refine ⟨trivial, ?_⟩
        refine ⟨trivial, ?_⟩
        exact ⟨⟨trivial, trivial, trivial⟩, ih (x81 ++ [(List.getD a0 (Int.toNat x83) (0 : Int))]) x82 (IntKind.wrap .i64 (x83 + (1 : Int))) r h⟩
      · rw [if_neg (of_decide_eq_false b94)] at h
        refine ⟨trivial, ?_⟩
        obtain ⟨g98, h⟩ := of_guard h
        refine ⟨g98, ?_⟩
        refine ⟨trivial, ?_⟩
        obtain ⟨g97, h⟩ := of_guard h
        refine ⟨g97, ?_⟩
        refine ⟨trivial, ?_⟩
        refine ⟨trivial, ?_⟩
        exact ⟨⟨trivial, trivial, trivial⟩, ih x81 (x82 ++ [(List.getD a0 (Int.toNat x83) (0 : Int))]) (IntKind.wrap .i64 (x83 + (1 : Int))) r h⟩
    · rw [if_neg (of_decide_eq_false b93)] at h
      obtain rfl := Option.some.inj h
      exact ⟨⟨trivial, trivial, trivial⟩, rfl, rfl⟩
def halterref18_Read.l2 (a0 : (List Int)) (a1 : Int) (a2 : Int) (a3 : Int) : Nat → (List Int) → (List Int) → Int → Option ((List Int) × (List Int))
  | 0, _, _, _ => none
  | n + 1, x129, x130, x131 =>
    if x131 < (((List.length a0) : Nat) : Int) then
      if x131 < a3 then
        if 0 ≤ x131 ∧ x131 < (((List.length a0) : Nat) : Int) then
          if (0 = 0 ∧ 1 = 1) ∧ 0 = 0 ∧ (List.length x129) = (List.length x129) ∧ (((List.length x129) + 1) * 1 ≤ 140737488355328 ∧ (List.length x129) + 1 ≤ 9223372036854775807) then
            halterref18_Read.l2 a0 a1 a2 a3 n (x129 ++ [(List.getD a0 (Int.toNat x131) (0 : Int))]) x130 (IntKind.wrap .i64 (x131 + (1 : Int)))
          else none
        else none
      else
        if 0 ≤ x131 ∧ x131 < (((List.length a0) : Nat) : Int) then
          if (0 = 0 ∧ 1 = 1) ∧ 0 = 0 ∧ (List.length x130) = (List.length x130) ∧ (((List.length x130) + 1) * 1 ≤ 140737488355328 ∧ (List.length x130) + 1 ≤ 9223372036854775807) then
            halterref18_Read.l2 a0 a1 a2 a3 n x129 (x130 ++ [(List.getD a0 (Int.toNat x131) (0 : Int))]) (IntKind.wrap .i64 (x131 + (1 : Int)))
          else none
        else none
    else
      some (x129, x130)
def halterref18_Read.l2_S (a0 : (List Int)) (a1 : Int) (a2 : Int) (a3 : Int) (x129 : List Int) (x130 : List Int) (x131 : Int) : St := ⟨[.any, .v (.one (.sc (.int .i64 a3))), .v (.one (.ptr 0 ⟨0, 0, 0, 0⟩)), .any, .any, .v (.one (.ptr 1 ⟨0, 0, 0, 0⟩)), .any, .v (.one (.os 2 0 0 1 (List.length x129) none)), .v (.one (.os 3 0 0 1 (List.length x130) none)), .v (.one (.sc (.int .i64 x131))), .any, .any, .any, .any, .any, .any, .any, .any, .any, .any, .any, .any, .any, .any, .any, .any, .any, .any, .any, .any, .any, .any, .any, .any, .any, .any, .any, .any, .any, .any, .any, .any, .any, .any, .any, .any, .any, .any, .any, .any, .any, .any, .any, .any, .any, .any, .any, .any, .any, .any, .any, .any], [.ex false [.c (.fs (.int .u8) a0 false), .c (.sc (.int .i64 a1)), .c (.sc (.int .i64 a2))] 40, .ex false [.c (.sc (.slice none 0 0)), .c (.sc (.int .i64 (0 : Int))), .c (.sc (.int .i64 (0 : Int)))] 40, .gro false (.int .u8) x129 5, .gro false (.int .u8) x130 5], 0⟩
def halterref18_Read.l2_Q (a0 : (List Int)) (a1 : Int) (a2 : Int) (a3 : Int) (t : (List Int) × (List Int)) : Exit → St → Prop := fun e s => e = (.exit 0) ∧ s = ⟨[.any, .any, .v (.one (.ptr 0 ⟨0, 0, 0, 0⟩)), .any, .any, .v (.one (.ptr 1 ⟨0, 0, 0, 0⟩)), .any, .v (.one (.os 2 0 0 1 (List.length t.1) none)), .v (.one (.os 3 0 0 1 (List.length t.2) none)), .any, .any, .any, .any, .any, .any, .any, .any, .any, .any, .any, .any, .any, .any, .any, .any, .any, .any, .any, .any, .any, .any, .any, .any, .any, .any, .any, .any, .any, .any, .any, .any, .any, .any, .any, .any, .any, .any, .any, .any, .any, .any, .any, .any, .any, .any, .any, .any, .any, .any, .any, .any, .any], [.ex false [.c (.fs (.int .u8) a0 false), .c (.sc (.int .i64 a1)), .c (.sc (.int .i64 a2))] 40, .ex false [.c (.sc (.slice none 0 0)), .c (.sc (.int .i64 (0 : Int))), .c (.sc (.int .i64 (0 : Int)))] 40, .gro false (.int .u8) t.1 5, .gro false (.int .u8) t.2 5], 0⟩
theorem halterref18_Read.l2_ok (a0 : (List Int)) (a1 : Int) (a2 : Int) (a3 : Int) : ∀ (n : Nat) (x129 : List Int) (x130 : List Int) (x131 : Int) (r : (List Int) × (List Int)), halterref18_Read.l2 a0 a1 a2 a3 n x129 x130 x131 = some r → TripN cfg (cpath (Tryd.f11.body.getD .skip) [1, 1, 1, 1, 0, 1, 0, 0]) n (halterref18_Read.l2_S a0 a1 a2 a3 x129 x130 x131) (halterref18_Read.l2_Q a0 a1 a2 a3 r) := by
  intro n
  induction n with
  | zero => intro x129 x130 x131 r h; cases h
  | succ n ih =>
    intro x129 x130 x131 r h
    rw [halterref18_Read.l2] at h
    refine TripN.of_run cfg_ok (k := (.br (.br (.d (.b true) (.adj [] (.adj [.keep [1, 2, 5, 7, 8, 9], .drop 4] .nil))) (.d (.b true) (.adj [] (.adj [.keep [1, 2, 5, 7, 8, 9], .drop 4] .nil)))) (.adj [.keep [2, 5, 7, 8], .drop 4] .nil))) (to_goal (q := (True) ∧ (True) ∧ (True) ∧ (((decide (x131 < (((List.length a0) : Nat) : Int))) = true → (True) ∧ (((decide (x131 < a3)) = true → (True) ∧ (0 ≤ x131 ∧ x131 < (((List.length a0) : Nat) : Int)) ∧ (True) ∧ ((0 = 0 ∧ 1 = 1) ∧ 0 = 0 ∧ (List.length x129) = (List.length x129) ∧ (((List.length x129) + 1) * 1 ≤ 140737488355328 ∧ (List.length x129) + 1 ≤ 9223372036854775807)) ∧ (True ∧ (True) ∧ (((True) ∧ (True) ∧ True) ∧ TripN cfg (cpath (Tryd.f11.body.getD .skip) [1, 1, 1, 1, 0, 1, 0, 0]) n (halterref18_Read.l2_S a0 a1 a2 a3 (x129 ++ [(List.getD a0 (Int.toNat x131) (0 : Int))]) x130 (IntKind.wrap .i64 (x131 + (1 : Int)))) (halterref18_Read.l2_Q a0 a1 a2 a3 r)))) ∧ ((decide (x131 < a3)) = false → (True) ∧ (0 ≤ x131 ∧ x131 < (((List.length a0) : Nat) : Int)) ∧ (True) ∧ ((0 = 0 ∧ 1 = 1) ∧ 0 = 0 ∧ (List.length x130) = (List.length x130) ∧ (((List.length x130) + 1) * 1 ≤ 140737488355328 ∧ (List.length x130) + 1 ≤ 9223372036854775807)) ∧ (True ∧ (True) ∧ (((True) ∧ (True) ∧ True) ∧ TripN cfg (cpath (Tryd.f11.body.getD .skip) [1, 1, 1, 1, 0, 1, 0, 0]) n (halterref18_Read.l2_S a0 a1 a2 a3 x129 (x130 ++ [(List.getD a0 (Int.toNat x131) (0 : Int))]) (IntKind.wrap .i64 (x131 + (1 : Int)))) (halterref18_Read.l2_Q a0 a1 a2 a3 r)))))) ∧ ((decide (x131 < (((List.length a0) : Nat) : Int))) = false → (((True) ∧ (True) ∧ True) ∧ halterref18_Read.l2_Q a0 a1 a2 a3 r (.exit 0) ⟨[.any, .any, .v (.one (.ptr 0 ⟨0, 0, 0, 0⟩)), .any, .any, .v (.one (.ptr 1 ⟨0, 0, 0, 0⟩)), .any, .v (.one (.os 2 0 0 1 (List.length x129) none)), .v (.one (.os 3 0 0 1 (List.length x130) none)), .any, .any, .any, .any, .any, .any, .any, .any, .any, .any, .any, .any, .any, .any, .any, .any, .any, .any, .any, .any, .any, .any, .any, .any, .any, .any, .any, .any, .any, .any, .any, .any, .any, .any, .any, .any, .any, .any, .any, .any, .any, .any, .any, .any, .any, .any, .any, .any, .any, .any, .any, .any, .any], [.ex false [.c (.fs (.int .u8) a0 false), .c (.sc (.int .i64 a1)), .c (.sc (.int .i64 a2))] 40, .ex false [.c (.sc (.slice none 0 0)), .c (.sc (.int .i64 (0 : Int))), .c (.sc (.int .i64 (0 : Int)))] 40, .gro false (.int .u8) x129 5, .gro false (.int .u8) x130 5], 0⟩)))) (by kernel_rfl) ?_)
    refine ⟨trivial, ?_⟩
    refine ⟨trivial, ?_⟩
    refine ⟨trivial, ?_⟩
    refine ⟨fun b141 => ?_, fun b141 => ?_⟩
    · rw [if_pos (of_decide_eq_true b141)] at h
      refine ⟨trivial, ?_⟩
      refine ⟨fun b142 => ?_, fun b142 => ?_⟩
      · rw [if_pos (of_decide_eq_true b142)] at h
        refine ⟨trivial, ?_⟩
        obtain ⟨g144, h⟩ := of_guard h
        refine ⟨g144, ?_⟩
        refine ⟨trivial, ?_⟩
        obtain ⟨g143, h⟩ := of_guard h
        refine ⟨g143, ?_⟩
        refine ⟨trivial, ?_⟩
        refine ⟨trivial, ?_⟩
        exact ⟨⟨trivial, trivial, trivial⟩, ih (x129 ++ [(List.getD a0 (Int.toNat x131) (0 : Int))]) x130 (IntKind.wrap .i64 (x131 + (1 : Int))) r h⟩
      · rw [if_neg (of_decide_eq_false b142)] at h
        refine ⟨trivial, ?_⟩
        obtain ⟨g146, h⟩ := of_guard h
        refine ⟨g146, ?_⟩
        refine ⟨trivial, ?_⟩
        obtain ⟨g145, h⟩ := of_guard h
        refine ⟨g145, ?_⟩
        refine ⟨trivial, ?_⟩
        refine ⟨trivial, ?_⟩
        exact ⟨⟨trivial, trivial, trivial⟩, ih x129 (x130 ++ [(List.getD a0 (Int.toNat x131) (0 : Int))]) (IntKind.wrap .i64 (x131 + (1 : Int))) r h⟩
    · rw [if_neg (of_decide_eq_false b141)] at h
      obtain rfl := Option.some.inj h
      exact ⟨⟨trivial, trivial, trivial⟩, rfl, rfl⟩
def halterref18_Read.f (a0 : (List Int)) (a1 : Int) (a2 : Int) (a3 : Int) : Option ((List Int) × (List Int) × Int × Int × Int) :=
  (halterref18_May.f a0 a1 a2).bind fun t1 =>
  if ¬ (t1 = true) then
    some (([] : List Int), ([] : List Int), (0 : Int), (0 : Int), (22 : Int))
  else
    if a3 < (0 : Int) then
      some (([] : List Int), ([] : List Int), (0 : Int), (0 : Int), (22 : Int))
    else
      if a3 > (0 : Int) then
        if (((List.length a0) : Nat) : Int) = (0 : Int) then
          if a2 > (0 : Int) then
            some (([] : List Int), ([] : List Int), (0 : Int), (0 : Int), (11 : Int))
          else
            (halterref18_Read.l0 a0 a1 a2 a3 FUEL ([] : List Int) ([] : List Int) (0 : Int)).bind fun t44 =>
            some (t44.1, t44.2, a1, a2, (0 : Int))
        else
          (halterref18_Read.l1 a0 a1 a2 a3 FUEL ([] : List Int) ([] : List Int) (0 : Int)).bind fun t92 =>
          some (t92.1, t92.2, a1, a2, (0 : Int))
      else
        (halterref18_Read.l2 a0 a1 a2 a3 FUEL ([] : List Int) ([] : List Int) (0 : Int)).bind fun t140 =>
        some (t140.1, t140.2, a1, a2, (0 : Int))
def halterref18_Read.R (r : (List Int) × (List Int) × Int × Int × Int) : Tm := .tup [.one (.fs (.int .u8) r.1 false), .agg [.c (.fs (.int .u8) r.2.1 false), .c (.sc (.int .i64 r.2.2.1)), .c (.sc (.int .i64 r.2.2.2.1))], .one (.sc (.int .i64 r.2.2.2.2))]
theorem halterref18_Read.fun_ {a0 : (List Int)} {a1 : Int} {a2 : Int} {a3 : Int} {r : (List Int) × (List Int) × Int × Int × Int} (h : halterref18_Read.f a0 a1 a2 a3 = some r) : Fun cfg 11 [.agg [.c (.fs (.int .u8) a0 false), .c (.sc (.int .i64 a1)), .c (.sc (.int .i64 a2))], .one (.sc (.int .i64 a3))] [] (halterref18_Read.R r) [] := by
  unfold halterref18_Read.f at h
  refine fun_of_run cfg_ok (f := 11) (fn := Tryd.f11) Tryd.func11 rfl (by kernel_rfl) (rs := [.tmp 4, .cell 5 40, .tmp 6]) rfl (nt := 62) rfl (l := fin) (k := (.call true [] (Bool) (fun t1 => halterref18_May.R t1) (fun t1 => (.br (.one true (.one true (.one true (.adj [] (.adj [] (.adj [.co 0 true [(.int .u8)], .co 1 true [(.int .u8)], .drop 0] .nil)))))) (.one false (.one false (.br (.adj [] (.adj [] (.adj [.co 0 true [(.int .u8)], .co 1 true [(.int .u8)], .drop 0] .nil))) (.br (.one true (.one true (.one true (.one true (.br (.one true (.one true (.one true (.br (.adj [] (.adj [] (.adj [.co 0 true [(.int .u8)], .co 1 true [(.int .u8)], .drop 0] .nil))) (.adj [] (.adj [] (.adj [] (.adj [] (.adj [.keep [1, 2, 5, 7, 8, 9], .nilGro 7 (.int .u8) 5, .nilGro 8 (.int .u8) 5] (.sub ((List Int) × (List Int)) (fun _ => (.exit 0)) (fun t44 => ⟨[.any, .any, .v (.one (.ptr 0 ⟨0, 0, 0, 0⟩)), .any, .any, .v (.one (.ptr 1 ⟨0, 0, 0, 0⟩)), .any, .v (.one (.os 2 0 0 1 (List.length t44.1) none)), .v (.one (.os 3 0 0 1 (List.length t44.2) none)), .any, .any, .any, .any, .any, .any, .any, .any, .any, .any, .any, .any, .any, .any, .any, .any, .any, .any, .any, .any, .any, .any, .any, .any, .any, .any, .any, .any, .any, .any, .any, .any, .any, .any, .any, .any, .any, .any, .any, .any, .any, .any, .any, .any, .any, .any, .any, .any, .any, .any, .any, .any, .any], [.ex false [.c (.fs (.int .u8) a0 false), .c (.sc (.int .i64 a1)), .c (.sc (.int .i64 a2))] 40, .ex false [.c (.sc (.slice none 0 0)), .c (.sc (.int .i64 (0 : Int))), .c (.sc (.int .i64 (0 : Int)))] 40, .gro false (.int .u8) t44.1 5, .gro false (.int .u8) t44.2 5], 0⟩) (fun t44 => (.dr [(0, dN), (2, dN), (1, dN), (3, dN), (4, dN)] (.adj [] (.adj [.co 0 true [], .co 1 true [], .drop 0] .nil)))))))))))))) (.one false (.one false (.one false (.one false (.adj [] (.adj [] (.adj [] (.adj [] (.adj [.keep [1, 2, 5, 7, 8, 9], .nilGro 7 (.int .u8) 5, .nilGro 8 (.int .u8) 5] (.sub ((List Int) × (List Int)) (fun _ => (.exit 0)) (fun t92 => ⟨[.any, .any, .v (.one (.ptr 0 ⟨0, 0, 0, 0⟩)), .any, .any, .v (.one (.ptr 1 ⟨0, 0, 0, 0⟩)), .any, .v (.one (.os 2 0 0 1 (List.length t92.1) none)), .v (.one (.os 3 0 0 1 (List.length t92.2) none)), .any, .any, .any, .any, .any, .any, .any, .any, .any, .any, .any, .any, .any, .any, .any, .any, .any, .any, .any, .any, .any, .any, .any, .any, .any, .any, .any, .any, .any, .any, .any, .any, .any, .any, .any, .any, .any, .any, .any, .any, .any, .any, .any, .any, .any, .any, .any, .any, .any, .any, .any, .any, .any], [.ex false [.c (.fs (.int .u8) a0 false), .c (.sc (.int .i64 a1)), .c (.sc (.int .i64 a2))] 40, .ex false [.c (.sc (.slice none 0 0)), .c (.sc (.int .i64 (0 : Int))), .c (.sc (.int .i64 (0 : Int)))] 40, .gro false (.int .u8) t92.1 5, .gro false (.int .u8) t92.2 5], 0⟩) (fun t92 => (.dr [(0, dN), (2, dN), (1, dN), (3, dN), (4, dN)] (.adj [] (.adj [.co 0 true [], .co 1 true [], .drop 0] .nil))))))))))))))))))) (.one false (.one false (.one false (.one false (.one false (.one false (.one false (.one false (.one false (.adj [] (.adj [] (.adj [] (.adj [] (.adj [.keep [1, 2, 5, 7, 8, 9], .nilGro 7 (.int .u8) 5, .nilGro 8 (.int .u8) 5] (.sub ((List Int) × (List Int)) (fun _ => (.exit 0)) (fun t140 => ⟨[.any, .any, .v (.one (.ptr 0 ⟨0, 0, 0, 0⟩)), .any, .any, .v (.one (.ptr 1 ⟨0, 0, 0, 0⟩)), .any, .v (.one (.os 2 0 0 1 (List.length t140.1) none)), .v (.one (.os 3 0 0 1 (List.length t140.2) none)), .any, .any, .any, .any, .any, .any, .any, .any, .any, .any, .any, .any, .any, .any, .any, .any, .any, .any, .any, .any, .any, .any, .any, .any, .any, .any, .any, .any, .any, .any, .any, .any, .any, .any, .any, .any, .any, .any, .any, .any, .any, .any, .any, .any, .any, .any, .any, .any, .any, .any, .any, .any, .any], [.ex false [.c (.fs (.int .u8) a0 false), .c (.sc (.int .i64 a1)), .c (.sc (.int .i64 a2))] 40, .ex false [.c (.sc (.slice none 0 0)), .c (.sc (.int .i64 (0 : Int))), .c (.sc (.int .i64 (0 : Int)))] 40, .gro false (.int .u8) t140.1 5, .gro false (.int .u8) t140.2 5], 0⟩) (fun t140 => (.dr [(0, dN), (2, dN), (1, dN), (3, dN), (4, dN)] (.adj [] (.adj [.co 0 true [], .co 1 true [], .drop 0] .nil))))))))))))))))))))))))))) (to_goal (q := (True) ∧ (∃ t1 : Bool, (Fun cfg 17 [.agg [.c (.fs (.int .u8) a0 false), .c (.sc (.int .i64 a1)), .c (.sc (.int .i64 a2))]] [] (halterref18_May.R t1) [] ∧ True) ∧ (((!t1) = false → ((!t1) = false ∧ (True) ∧ ((!t1) = false ∧ (((decide (a3 < (0 : Int))) = true → (True ∧ (True) ∧ (True ∧ (((True) ∧ True) ∧ ((True) ∧ (True) ∧ (True) ∧ True) ∧ (.tup [.one (.fs (.int .u8) ([] : List Int) false), .agg [.c (.fs (.int .u8) ([] : List Int) false), .c (.sc (.int .i64 (0 : Int))), .c (.sc (.int .i64 (0 : Int)))], .one (.sc (.int .i64 (22 : Int)))] : Tm) = halterref18_Read.R r ∧ ([] : List Box) = [])))) ∧ ((decide (a3 < (0 : Int))) = false → (True) ∧ (((decide (a3 > (0 : Int))) = true → ((decide (a3 > (0 : Int))) = true ∧ (True) ∧ ((decide (a3 > (0 : Int))) = true ∧ (True) ∧ ((decide (a3 > (0 : Int))) = true ∧ (True) ∧ ((decide (a3 > (0 : Int))) = true ∧ ((((((List.length a0) : Nat) : Int) == (0 : Int)) = true → (((((List.length a0) : Nat) : Int) == (0 : Int)) = true ∧ (True) ∧ (((((List.length a0) : Nat) : Int) == (0 : Int)) = true ∧ (True) ∧ (((((List.length a0) : Nat) : Int) == (0 : Int)) = true ∧ (((decide (a2 > (0 : Int))) = true → (True ∧ (True) ∧ (True ∧ (((True) ∧ True) ∧ ((True) ∧ (True) ∧ (True) ∧ True) ∧ (.tup [.one (.fs (.int .u8) ([] : List Int) false), .agg [.c (.fs (.int .u8) ([] : List Int) false), .c (.sc (.int .i64 (0 : Int))), .c (.sc (.int .i64 (0 : Int)))], .one (.sc (.int .i64 (11 : Int)))] : Tm) = halterref18_Read.R r ∧ ([] : List Box) = [])))) ∧ ((decide (a2 > (0 : Int))) = false → (True ∧ (True ∧ (True ∧ (True ∧ (((True) ∧ (True) ∧ (True) ∧ True) ∧ (∃ t44 : (List Int) × (List Int), Trip cfg (.loop (cpath (Tryd.f11.body.getD .skip) [1, 1, 1, 1, 0, 1, 0, 0])) ⟨[.any, .v (.one (.sc (.int .i64 a3))), .v (.one (.ptr 0 ⟨0, 0, 0, 0⟩)), .any, .any, .v (.one (.ptr 1 ⟨0, 0, 0, 0⟩)), .any, .v (.one (.os 2 0 0 1 0 none)), .v (.one (.os 3 0 0 1 0 none)), .v (.one (.sc (.int .i64 (0 : Int)))), .any, .any, .any, .any, .any, .any, .any, .any, .any, .any, .any, .any, .any, .any, .any, .any, .any, .any, .any, .any, .any, .any, .any, .any, .any, .any, .any, .any, .any, .any, .any, .any, .any, .any, .any, .any, .any, .any, .any, .any, .any, .any, .any, .any, .any, .any, .any, .any, .any, .any, .any, .any], [.ex false [.c (.fs (.int .u8) a0 false), .c (.sc (.int .i64 a1)), .c (.sc (.int .i64 a2))] 40, .ex false [.c (.sc (.slice none 0 0)), .c (.sc (.int .i64 (0 : Int))), .c (.sc (.int .i64 (0 : Int)))] 40, .gro false (.int .u8) ([] : List Int) 5, .gro false (.int .u8) ([] : List Int) 5], 0⟩ (fun e s => e = (.exit 0) ∧ s = ⟨[.any, .any, .v (.one (.ptr 0 ⟨0, 0, 0, 0⟩)), .any, .any, .v (.one (.ptr 1 ⟨0, 0, 0, 0⟩)), .any, .v (.one (.os 2 0 0 1 (List.length t44.1) none)), .v (.one (.os 3 0 0 1 (List.length t44.2) none)), .any, .any, .any, .any, .any, .any, .any, .any, .any, .any, .any, .any, .any, .any, .any, .any, .any, .any, .any, .any, .any, .any, .any, .any, .any, .any, .any, .any, .any, .any, .any, .any, .any, .any, .any, .any, .any, .any, .any, .any, .any, .any, .any, .any, .any, .any, .any, .any, .any, .any, .any, .any, .any], [.ex false [.c (.fs (.int .u8) a0 false), .c (.sc (.int .i64 a1)), .c (.sc (.int .i64 a2))] 40, .ex false [.c (.sc (.slice none 0 0)), .c (.sc (.int .i64 (0 : Int))), .c (.sc (.int .i64 (0 : Int)))] 40, .gro false (.int .u8) t44.1 5, .gro false (.int .u8) t44.2 5], 0⟩) ∧ (True) ∧ (True) ∧ (True) ∧ (True ∧ (((True) ∧ True) ∧ ((((0 = 0 ∧ (List.length t44.1) = (List.length t44.1))) ∧ True) ∧ (((0 = 0 ∧ (List.length t44.2) = (List.length t44.2))) ∧ True) ∧ (True) ∧ True) ∧ (.tup [.one (.fs (.int .u8) t44.1 false), .agg [.c (.fs (.int .u8) t44.2 false), .c (.sc (.int .i64 a1)), .c (.sc (.int .i64 a2))], .one (.sc (.int .i64 (0 : Int)))] : Tm) = halterref18_Read.R r ∧ ([] : List Box) = [])))))))))))))) ∧ (((((List.length a0) : Nat) : Int) == (0 : Int)) = false → (((((List.length a0) : Nat) : Int) == (0 : Int)) = false ∧ (((((List.length a0) : Nat) : Int) == (0 : Int)) = false ∧ (((((List.length a0) : Nat) : Int) == (0 : Int)) = false ∧ (false = false ∧ (True ∧ (True ∧ (True ∧ (True ∧ (((True) ∧ (True) ∧ (True) ∧ True) ∧ (∃ t92 : (List Int) × (List Int), Trip cfg (.loop (cpath (Tryd.f11.body.getD .skip) [1, 1, 1, 1, 0, 1, 0, 0])) ⟨[.any, .v (.one (.sc (.int .i64 a3))), .v (.one (.ptr 0 ⟨0, 0, 0, 0⟩)), .any, .any, .v (.one (.ptr 1 ⟨0, 0, 0, 0⟩)), .any, .v (.one (.os 2 0 0 1 0 none)), .v (.one (.os 3 0 0 1 0 none)), .v (.one (.sc (.int .i64 (0 : Int)))), .any, .any, .any, .any, .any, .any, .any, .any, .any, .any, .any, .any, .any, .any, .any, .any, .any, .any, .any, .any, .any, .any, .any, .any, .any, .any, .any, .any, .any, .any, .any, .any, .any, .any, .any, .any, .any, .any, .any, .any, .any, .any, .any, .any, .any, .any, .any, .any, .any, .any, .any, .any], [.ex false [.c (.fs (.int .u8) a0 false), .c (.sc (.int .i64 a1)), .c (.sc (.int .i64 a2))] 40, .ex false [.c (.sc (.slice none 0 0)), .c (.sc (.int .i64 (0 : Int))), .c (.sc (.int .i64 (0 : Int)))] 40, .gro false (.int .u8) ([] : List Int) 5, .gro false (.int .u8) ([] : List Int) 5], 0⟩ (fun e s => e = (.exit 0) ∧ s = ⟨[.any, .any, .v (.one (.ptr 0 ⟨0, 0, 0, 0⟩)), .any, .any, .v (.one (.ptr 1 ⟨0, 0, 0, 0⟩)), .any, .v (.one (.os 2 0 0 1 (List.length t92.1) none)), .v (.one (.os 3 0 0 1 (List.length t92.2) none)), .any, .any, .any, .any, .any, .any, .any, .any, .any, .any, .any, .any, .any, .any, .any, .any, .any, .any, .any, .any, .any, .any, .any, .any, .any, .any, .any, .any, .any, .any, .any, .any, .any, .any, .any, .any, .any, .any, .any, .any, .any, .any, .any, .any, .any, .any, .any, .any, .any, .any, .any, .any, .any], [.ex false [.c (.fs (.int .u8) a0 false), .c (.sc (.int .i64 a1)), .c (.sc (.int .i64 a2))] 40, .ex false [.c (.sc (.slice none 0 0)), .c (.sc (.int .i64 (0 : Int))), .c (.sc (.int .i64 (0 : Int)))] 40, .gro false (.int .u8) t92.1 5, .gro false (.int .u8) t92.2 5], 0⟩) ∧ (True) ∧ (True) ∧ (True) ∧ (True ∧ (((True) ∧ True) ∧ ((((0 = 0 ∧ (List.length t92.1) = (List.length t92.1))) ∧ True) ∧ (((0 = 0 ∧ (List.length t92.2) = (List.length t92.2))) ∧ True) ∧ (True) ∧ True) ∧ (.tup [.one (.fs (.int .u8) t92.1 false), .agg [.c (.fs (.int .u8) t92.2 false), .c (.sc (.int .i64 a1)), .c (.sc (.int .i64 a2))], .one (.sc (.int .i64 (0 : Int)))] : Tm) = halterref18_Read.R r ∧ ([] : List Box) = []))))))))))))))))))) ∧ ((decide (a3 > (0 : Int))) = false → ((decide (a3 > (0 : Int))) = false ∧ ((decide (a3 > (0 : Int))) = false ∧ ((decide (a3 > (0 : Int))) = false ∧ ((decide (a3 > (0 : Int))) = false ∧ (false = false ∧ (false = false ∧ (false = false ∧ (false = false ∧ (false = false ∧ (True ∧ (True ∧ (True ∧ (True ∧ (((True) ∧ (True) ∧ (True) ∧ True) ∧ (∃ t140 : (List Int) × (List Int), Trip cfg (.loop (cpath (Tryd.f11.body.getD .skip) [1, 1, 1, 1, 0, 1, 0, 0])) ⟨[.any, .v (.one (.sc (.int .i64 a3))), .v (.one (.ptr 0 ⟨0, 0, 0, 0⟩)), .any, .any, .v (.one (.ptr 1 ⟨0, 0, 0, 0⟩)), .any, .v (.one (.os 2 0 0 1 0 none)), .v (.one (.os 3 0 0 1 0 none)), .v (.one (.sc (.int .i64 (0 : Int)))), .any, .any, .any, .any, .any, .any, .any, .any, .any, .any, .any, .any, .any, .any, .any, .any, .any, .any, .any, .any, .any, .any, .any, .any, .any, .any, .any, .any, .any, .any, .any, .any, .any, .any, .any, .any, .any, .any, .any, .any, .any, .any, .any, .any, .any, .any, .any, .any, .any, .any, .any, .any], [.ex false [.c (.fs (.int .u8) a0 false), .c (.sc (.int .i64 a1)), .c (.sc (.int .i64 a2))] 40, .ex false [.c (.sc (.slice none 0 0)), .c (.sc (.int .i64 (0 : Int))), .c (.sc (.int .i64 (0 : Int)))] 40, .gro false (.int .u8) ([] : List Int) 5, .gro false (.int .u8) ([] : List Int) 5], 0⟩ (fun e s => e = (.exit 0) ∧ s = ⟨[.any, .any, .v (.one (.ptr 0 ⟨0, 0, 0, 0⟩)), .any, .any, .v (.one (.ptr 1 ⟨0, 0, 0, 0⟩)), .any, .v (.one (.os 2 0 0 1 (List.length t140.1) none)), .v (.one (.os 3 0 0 1 (List.length t140.2) none)), .any, .any, .any, .any, .any, .any, .any, .any, .any, .any, .any, .any, .any, .any, .any, .any, .any, .any, .any, .any, .any, .any, .any, .any, .any, .any, .any, .any, .any, .any, .any, .any, .any, .any, .any, .any, .any, .any, .any, .any, .any, .any, .any, .any, .any, .any, .any, .any, .any, .any, .any, .any, .any], [.ex false [.c (.fs (.int .u8) a0 false), .c (.sc (.int .i64 a1)), .c (.sc (.int .i64 a2))] 40, .ex false [.c (.sc (.slice none 0 0)), .c (.sc (.int .i64 (0 : Int))), .c (.sc (.int .i64 (0 : Int)))] 40, .gro false (.int .u8) t140.1 5, .gro false (.int .u8) t140.2 5], 0⟩) ∧ (True) ∧ (True) ∧ (True) ∧ (True ∧ (((True) ∧ True) ∧ ((((0 = 0 ∧ (List.length t140.1) = (List.length t140.1))) ∧ True) ∧ (((0 = 0 ∧ (List.length t140.2) = (List.length t140.2))) ∧ True) ∧ (True) ∧ True) ∧ (.tup [.one (.fs (.int .u8) t140.1 false), .agg [.c (.fs (.int .u8) t140.2 false), .c (.sc (.int .i64 a1)), .c (.sc (.int .i64 a2))], .one (.sc (.int .i64 (0 : Int)))] : Tm) = halterref18_Read.R r ∧ ([] : List Box) = [])))))))))))))))))))))))) ∧ ((!t1) = true → ((!t1) = true ∧ ((!t1) = true ∧ (true = true ∧ (True ∧ (True) ∧ (True ∧ (((True) ∧ True) ∧ ((True) ∧ (True) ∧ (True) ∧ True) ∧ (.tup [.one (.fs (.int .u8) ([] : List Int) false), .agg [.c (.fs (.int .u8) ([] : List Int) false), .c (.sc (.int .i64 (0 : Int))), .c (.sc (.int .i64 (0 : Int)))], .one (.sc (.int .i64 (22 : Int)))] : Tm) = halterref18_Read.R r ∧ ([] : List Box) = [])))))))))) (by kernel_rfl) ?_)
  refine ⟨trivial, ?_⟩
  obtain ⟨t1, ht1, h⟩ := of_bind h
  refine ⟨t1, ⟨halterref18_May.fun_ ht1, trivial⟩, ?_⟩
  refine ⟨fun b2 => ?_, fun b2 => ?_⟩
  · rw [if_neg (not_not_intro (not_f b2))] at h
    refine ⟨b2, ?_⟩
    refine ⟨trivial, ?_⟩
    refine ⟨b2, ?_⟩
    refine ⟨fun b3 => ?_, fun b3 => ?_⟩
    · rw [if_pos (of_decide_eq_true b3)] at h
      refine ⟨trivial, ?_⟩
      refine ⟨trivial, ?_⟩
      refine ⟨trivial, ?_⟩
      obtain rfl := Option.some.inj h
      exact ⟨⟨trivial, trivial⟩, ⟨trivial, trivial, trivial, trivial⟩, rfl, rfl⟩
    · rw [if_neg (of_decide_eq_false b3)] at h
      refine ⟨trivial, ?_⟩
      refine ⟨fun b4 => ?_, fun b4 => ?_⟩
      · rw [if_pos (of_decide_eq_true b4)] at h
        refine ⟨b4, ?_⟩
        refine ⟨trivial, ?_⟩
        refine ⟨b4, ?_⟩
        refine ⟨trivial, ?_⟩
        refine ⟨b4, ?_⟩
        refine ⟨trivial, ?_⟩
        refine ⟨b4, ?_⟩
        refine ⟨fun b5 => ?_, fun b5 => ?_⟩
        · rw [if_pos (beq_t b5)] at h
          refine ⟨b5, ?_⟩
          refine ⟨trivial, ?_⟩
          refine ⟨b5, ?_⟩
          refine ⟨trivial, ?_⟩
          refine ⟨b5, ?_⟩
          refine ⟨fun b6 => ?_, fun b6 => ?_⟩
          · rw [if_pos (of_decide_eq_true b6)] at h
            refine ⟨trivial, ?_⟩
            refine ⟨trivial, ?_⟩
            refine ⟨trivial, ?_⟩
            obtain rfl := Option.some.inj h
            exact ⟨⟨trivial, trivial⟩, ⟨trivial, trivial, trivial, trivial⟩, rfl, rfl⟩
          · rw [if_neg (of_decide_eq_false b6)] at h
            refine ⟨trivial, ?_⟩
            refine ⟨trivial, ?_⟩
            refine ⟨trivial, ?_⟩
            refine ⟨trivial, ?_⟩
            obtain ⟨t44, ht44, h⟩ := of_bind h
            refine ⟨⟨trivial, trivial, trivial, trivial⟩, t44, Trip.loop FUEL (halterref18_Read.l0_ok a0 a1 a2 a3 FUEL ([] : List Int) ([] : List Int) (0 : Int) t44 ht44), ?_⟩
            refine ⟨trivial, ?_⟩
            refine ⟨trivial, trivial, ?_⟩
            refine ⟨trivial, ?_⟩
            obtain rfl := Option.some.inj h
            exact ⟨⟨trivial, trivial⟩, ⟨⟨⟨rfl, rfl⟩, trivial⟩, ⟨⟨rfl, rfl⟩, trivial⟩, trivial, trivial⟩, rfl, rfl⟩
        · rw [if_neg (beq_f b5)] at h
          refine ⟨b5, ?_⟩
          refine ⟨b5, ?_⟩
          refine ⟨b5, ?_⟩
          refine ⟨rfl, ?_⟩
          refine ⟨trivial, ?_⟩
          refine ⟨trivial, ?_⟩
          refine ⟨trivial, ?_⟩
          refine ⟨trivial, ?_⟩
          obtain ⟨t92, ht92, h⟩ := of_bind h
          refine ⟨⟨trivial, trivial, trivial, trivial⟩, t92, Trip.loop FUEL (halterref18_Read.l1_ok a0 a1 a2 a3 FUEL ([] : List Int) ([] : List Int) (0 : Int) t92 ht92), ?_⟩
          refine ⟨trivial, ?_⟩
          refine ⟨trivial, trivial, ?_⟩
          refine ⟨trivial, ?_⟩
          obtain rfl := Option.some.inj h
          exact ⟨⟨trivial, trivial⟩, ⟨⟨⟨rfl, rfl⟩, trivial⟩, ⟨⟨rfl, rfl⟩, trivial⟩, trivial, trivial⟩, rfl, rfl⟩
      · rw [if_neg (of_decide_eq_false b4)] at h
        refine ⟨b4, ?_⟩
        refine ⟨b4, ?_⟩
        refine ⟨b4, ?_⟩
        refine ⟨b4, ?_⟩
        refine ⟨rfl, ?_⟩
        refine ⟨rfl, ?_⟩
        refine ⟨rfl, ?_⟩
        refine ⟨rfl, ?_⟩
        refine ⟨rfl, ?_⟩
        refine ⟨trivial, ?_⟩
        refine ⟨trivial, ?_⟩
        refine ⟨trivial, ?_⟩
        refine ⟨trivial, ?_⟩
        obtain ⟨t140, ht140, h⟩ := of_bind h
        refine ⟨⟨trivial, trivial, trivial, trivial⟩, t140, Trip.loop FUEL (halterref18_Read.l2_ok a0 a1 a2 a3 FUEL ([] : List Int) ([] : List Int) (0 : Int) t140 ht140), ?_⟩
        refine ⟨trivial, ?_⟩
        refine ⟨trivial, trivial, ?_⟩
        refine ⟨trivial, ?_⟩
        obtain rfl := Option.some.inj h
        exact ⟨⟨trivial, trivial⟩, ⟨⟨⟨rfl, rfl⟩, trivial⟩, ⟨⟨rfl, rfl⟩, trivial⟩, trivial, trivial⟩, rfl, rfl⟩
  · rw [if_pos (ff (not_t b2))] at h
    refine ⟨b2, ?_⟩
    refine ⟨b2, ?_⟩
    refine ⟨rfl, ?_⟩
    refine ⟨trivial, ?_⟩
    refine ⟨trivial, ?_⟩
    refine ⟨trivial, ?_⟩
    obtain rfl := Option.some.inj h
    exact ⟨⟨trivial, trivial⟩, ⟨trivial, trivial, trivial, trivial⟩, rfl, rfl⟩
/-! halter/halterref18.Write -/
def halterref18_Write.l0 (a0 : (List Int)) (a1 : Int) (a2 : Int) (a3 : (List Int)) : Nat → (List Int) → Int → Option ((List Int) × Int)
  | 0, _, _ => none
  | n + 1, x11, x12 =>
    if x12 < (((List.length a3) : Nat) : Int) then
      if (((List.length x11) : Nat) : Int) < (64 : Int) then
        if 0 ≤ x12 ∧ x12 < (((List.length a3) : Nat) : Int) then
          if (0 = 0 ∧ 1 = 1) ∧ 0 = 0 ∧ (List.length x11) = (List.length x11) ∧ (((List.length x11) + 1) * 1 ≤ 140737488355328 ∧ (List.length x11) + 1 ≤ 9223372036854775807) then
            halterref18_Write.l0 a0 a1 a2 a3 n (x11 ++ [(List.getD a3 (Int.toNat x12) (0 : Int))]) (IntKind.wrap .i64 (x12 + (1 : Int)))
          else none
        else none
      else
        some (x11, x12)
    else
      some (x11, x12)
def halterref18_Write.l0_S (a0 : (List Int)) (a1 : Int) (a2 : Int) (a3 : (List Int)) (x11 : List Int) (x12 : Int) : St := ⟨[.any, .v (.one (.fs (.int .u8) a3 false)), .v (.one (.ptr 0 ⟨0, 0, 0, 0⟩)), .any, .any, .v (.one (.ptr 1 ⟨0, 0, 0, 0⟩)), .any, .v (.one (.os 2 0 0 1 (List.length x11) none)), .v (.one (.sc (.int .i64 x12))), .any, .any, .any, .any, .any, .any, .any, .any, .any, .any, .any, .any, .any, .any, .any, .any, .any, .any, .any, .any, .any, .any, .any, .any, .any, .any, .any, .any, .any, .any, .any, .any, .any, .any, .any, .any, .any, .any, .any, .any, .any, .any, .any, .any], [.ex false [.c (.fs (.int .u8) a0 false), .c (.sc (.int .i64 a1)), .c (.sc (.int .i64 a2))] 40, .ex false [.c (.sc (.slice none 0 0)), .c (.sc (.int .i64 (0 : Int))), .c (.sc (.int .i64 (0 : Int)))] 40, .gro false (.int .u8) x11 5], 0⟩
def halterref18_Write.l0_Q (a0 : (List Int)) (a1 : Int) (a2 : Int) (a3 : (List Int)) (t : (List Int) × Int) : Exit → St → Prop := fun e s => e = (.exit 0) ∧ s = ⟨[.any, .any, .v (.one (.ptr 0 ⟨0, 0, 0, 0⟩)), .any, .any, .v (.one (.ptr 1 ⟨0, 0, 0, 0⟩)), .any, .v (.one (.os 2 0 0 1 (List.length t.1) none)), .v (.one (.sc (.int .i64 t.2))), .any, .any, .any, .any, .any, .any, .any, .any, .any, .any, .any, .any, .any, .any, .any, .any, .any, .any, .any, .any, .any, .any, .any, .any, .any, .any, .any, .any, .any, .any, .any, .any, .any, .any, .any, .any, .any, .any, .any, .any, .any, .any, .any, .any], [.ex false [.c (.fs (.int .u8) a0 false), .c (.sc (.int .i64 a1)), .c (.sc (.int .i64 a2))] 40, .ex false [.c (.sc (.slice none 0 0)), .c (.sc (.int .i64 (0 : Int))), .c (.sc (.int .i64 (0 : Int)))] 40, .gro false (.int .u8) t.1 5], 0⟩
theorem halterref18_Write.l0_ok (a0 : (List Int)) (a1 : Int) (a2 : Int) (a3 : (List Int)) : ∀ (n : Nat) (x11 : List Int) (x12 : Int) (r : (List Int) × Int), halterref18_Write.l0 a0 a1 a2 a3 n x11 x12 = some r → TripN cfg (cpath (Tryd.f12.body.getD .skip) [1, 1, 1, 1, 1, 1, 1, 0, 0, 0]) n (halterref18_Write.l0_S a0 a1 a2 a3 x11 x12) (halterref18_Write.l0_Q a0 a1 a2 a3 r) := by
  intro n
  induction n with
  | zero => intro x11 x12 r h; cases h
  | succ n ih =>
    intro x11 x12 r h
    rw [halterref18_Write.l0] at h
    refine TripN.of_run cfg_ok (k := (.br (.one true (.one true (.one true (.br (.d (.b true) (.adj [] (.adj [.keep [1, 2, 5, 7, 8], .drop 3] .nil))) (.adj [.keep [2, 5, 7, 8], .drop 3] .nil))))) (.one false (.one false (.one false (.one false (.adj [.keep [2, 5, 7, 8], .drop 3] .nil))))))) (to_goal (q := (True) ∧ (True) ∧ (((decide (x12 < (((List.length a3) : Nat) : Int))) = true → ((decide (x12 < (((List.length a3) : Nat) : Int))) = true ∧ (True) ∧ ((decide (x12 < (((List.length a3) : Nat) : Int))) = true ∧ (True) ∧ ((decide (x12 < (((List.length a3) : Nat) : Int))) = true ∧ (((decide ((((List.length x11) : Nat) : Int) < (64 : Int))) = true → (0 ≤ x12 ∧ x12 < (((List.length a3) : Nat) : Int)) ∧ (True) ∧ ((0 = 0 ∧ 1 = 1) ∧ 0 = 0 ∧ (List.length x11) = (List.length x11) ∧ (((List.length x11) + 1) * 1 ≤ 140737488355328 ∧ (List.length x11) + 1 ≤ 9223372036854775807)) ∧ (True ∧ (True) ∧ (((True) ∧ (True) ∧ True) ∧ TripN cfg (cpath (Tryd.f12.body.getD .skip) [1, 1, 1, 1, 1, 1, 1, 0, 0, 0]) n (halterref18_Write.l0_S a0 a1 a2 a3 (x11 ++ [(List.getD a3 (Int.toNat x12) (0 : Int))]) (IntKind.wrap .i64 (x12 + (1 : Int)))) (halterref18_Write.l0_Q a0 a1 a2 a3 r)))) ∧ ((decide ((((List.length x11) : Nat) : Int) < (64 : Int))) = false → (((True) ∧ (True) ∧ True) ∧ halterref18_Write.l0_Q a0 a1 a2 a3 r (.exit 0) ⟨[.any, .any, .v (.one (.ptr 0 ⟨0, 0, 0, 0⟩)), .any, .any, .v (.one (.ptr 1 ⟨0, 0, 0, 0⟩)), .any, .v (.one (.os 2 0 0 1 (List.length x11) none)), .v (.one (.sc (.int .i64 x12))), .any, .any, .any, .any, .any, .any, .any, .any, .any, .any, .any, .any, .any, .any, .any, .any, .any, .any, .any, .any, .any, .any, .any, .any, .any, .any, .any, .any, .any, .any, .any, .any, .any, .any, .any, .any, .any, .any, .any, .any, .any, .any, .any, .any], [.ex false [.c (.fs (.int .u8) a0 false), .c (.sc (.int .i64 a1)), .c (.sc (.int .i64 a2))] 40, .ex false [.c (.sc (.slice none 0 0)), .c (.sc (.int .i64 (0 : Int))), .c (.sc (.int .i64 (0 : Int)))] 40, .gro false (.int .u8) x11 5], 0⟩))))))) ∧ ((decide (x12 < (((List.length a3) : Nat) : Int))) = false → ((decide (x12 < (((List.length a3) : Nat) : Int))) = false ∧ ((decide (x12 < (((List.length a3) : Nat) : Int))) = false ∧ ((decide (x12 < (((List.length a3) : Nat) : Int))) = false ∧ (false = false ∧ (((True) ∧ (True) ∧ True) ∧ halterref18_Write.l0_Q a0 a1 a2 a3 r (.exit 0) ⟨[.any, .any, .v (.one (.ptr 0 ⟨0, 0, 0, 0⟩)), .any, .any, .v (.one (.ptr 1 ⟨0, 0, 0, 0⟩)), .any, .v (.one (.os 2 0 0 1 (List.length x11) none)), .v (.one (.sc (.int .i64 x12))), .any, .any, .any, .any, .any, .any, .any, .any, .any, .any, .any, .any, .any, .any, .any, .any, .any, .any, .any, .any, .any, .any, .any, .any, .any, .any, .any, .any, .any, .any, .any, .any, .any, .any, .any, .any, .any, .any, .any, .any, .any, .any, .any, .any], [.ex false [.c (.fs (.int .u8) a0 false), .c (.sc (.int .i64 a1)), .c (.sc (.int .i64 a2))] 40, .ex false [.c (.sc (.slice none 0 0)), .c (.sc (.int .i64 (0 : Int))), .c (.sc (.int .i64 (0 : Int)))] 40, .gro false (.int .u8) x11 5], 0⟩)))))))) (by kernel_rfl) ?_)
    refine ⟨trivial, ?_⟩
    refine ⟨trivial, ?_⟩
    refine ⟨fun b20 => ?_, fun b20 => ?_⟩
    · rw [if_pos (of_decide_eq_true b20)] at h
      refine ⟨b20, ?_⟩
      refine ⟨trivial, ?_⟩
      refine ⟨b20, ?_⟩
      refine ⟨trivial, ?_⟩
      refine ⟨b20, ?_⟩
      refine ⟨fun b21 => ?_, fun b21 => ?_⟩
      · rw [if_pos (of_decide_eq_true b21)] at h
        obtain ⟨g23, h⟩ := of_guard h
        refine ⟨g23, ?_⟩
        refine ⟨trivial, ?_⟩
        obtain ⟨g22, h⟩ := of_guard h
        refine ⟨g22, ?_⟩
        refine ⟨trivial, ?_⟩
        refine ⟨trivial, ?_⟩
        exact ⟨⟨trivial, trivial, trivial⟩, ih (x11 ++ [(List.getD a3 (Int.toNat x12) (0 : Int))]) (IntKind.wrap .i64 (x12 + (1 : Int))) r h⟩
      · rw [if_neg (of_decide_eq_false b21)] at h
        obtain rfl := Option.some.inj h
        exact ⟨⟨trivial, trivial, trivial⟩, rfl, rfl⟩
    · rw [if_neg (of_decide_eq_false b20)] at h
      refine ⟨b20, ?_⟩
      refine ⟨b20, ?_⟩
      refine ⟨b20, ?_⟩
      refine ⟨rfl, ?_⟩
      obtain rfl := Option.some.inj h
      exact ⟨⟨trivial, trivial, trivial⟩, rfl, rfl⟩
def halterref18_Write.l1 (a0 : (List Int)) (a1 : Int) (a2 : Int) (a3 : (List Int)) : Nat → (List Int) → Int → Option ((List Int) × Int)
  | 0, _, _ => none
  | n + 1, x34, x35 =>
    if x35 < (((List.length a3) : Nat) : Int) then
      if (((List.length x34) : Nat) : Int) < (64 : Int) then
        if 0 ≤ x35 ∧ x35 < (((List.length a3) : Nat) : Int) then
          if (0 = 0 ∧ 1 = 1) ∧ 0 = 0 ∧ (List.length x34) = (List.length x34) ∧ (((List.length x34) + 1) * 1 ≤ 140737488355328 ∧ (List.length x34) + 1 ≤ 9223372036854775807) then
            halterref18_Write.l1 a0 a1 a2 a3 n (x34 ++ [(List.getD a3 (Int.toNat x35) (0 : Int))]) (IntKind.wrap .i64 (x35 + (1 : Int)))
          else none
        else none
      else
        some (x34, x35)
    else
      some (x34, x35)
def halterref18_Write.l1_S (a0 : (List Int)) (a1 : Int) (a2 : Int) (a3 : (List Int)) (x34 : List Int) (x35 : Int) : St := ⟨[.any, .v (.one (.fs (.int .u8) a3 false)), .v (.one (.ptr 0 ⟨0, 0, 0, 0⟩)), .any, .any, .v (.one (.ptr 1 ⟨0, 0, 0, 0⟩)), .any, .v (.one (.os 2 0 0 1 (List.length x34) none)), .v (.one (.sc (.int .i64 x35))), .any, .any, .any, .any, .any, .any, .any, .any, .any, .any, .any, .any, .any, .any, .any, .any, .any, .any, .any, .any, .any, .any, .any, .any, .any, .any, .any, .any, .any, .any, .any, .any, .any, .any, .any, .any, .any, .any, .any, .any, .any, .any, .any, .any], [.ex false [.c (.fs (.int .u8) a0 false), .c (.sc (.int .i64 a1)), .c (.sc (.int .i64 a2))] 40, .ex false [.c (.sc (.slice none 0 0)), .c (.sc (.int .i64 (0 : Int))), .c (.sc (.int .i64 (0 : Int)))] 40, .gro false (.int .u8) x34 5], 0⟩
def halterref18_Write.l1_Q (a0 : (List Int)) (a1 : Int) (a2 : Int) (a3 : (List Int)) (t : (List Int) × Int) : Exit → St → Prop := fun e s => e = (.exit 0) ∧ s = ⟨[.any, .any, .v (.one (.ptr 0 ⟨0, 0, 0, 0⟩)), .any, .any, .v (.one (.ptr 1 ⟨0, 0, 0, 0⟩)), .any, .v (.one (.os 2 0 0 1 (List.length t.1) none)), .v (.one (.sc (.int .i64 t.2))), .any, .any, .any, .any, .any, .any, .any, .any, .any, .any, .any, .any, .any, .any, .any, .any, .any, .any, .any, .any, .any, .any, .any, .any, .any, .any, .any, .any, .any, .any, .any, .any, .any, .any, .any, .any, .any, .any, .any, .any, .any, .any, .any, .any], [.ex false [.c (.fs (.int .u8) a0 false), .c (.sc (.int .i64 a1)), .c (.sc (.int .i64 a2))] 40, .ex false [.c (.sc (.slice none 0 0)), .c (.sc (.int .i64 (0 : Int))), .c (.sc (.int .i64 (0 : Int)))] 40, .gro false (.int .u8) t.1 5], 0⟩
theorem halterref18_Write.l1_ok (a0 : (List Int)) (a1 : Int) (a2 : Int) (a3 : (List Int)) : ∀ (n : Nat) (x34 : List Int) (x35 : Int) (r : (List Int) × Int), halterref18_Write.l1 a0 a1 a2 a3 n x34 x35 = some r → TripN cfg (cpath (Tryd.f12.body.getD .skip) [1, 1, 1, 1, 1, 1, 1, 0, 0, 0]) n (halterref18_Write.l1_S a0 a1 a2 a3 x34 x35) (halterref18_Write.l1_Q a0 a1 a2 a3 r) := by
  intro n
  induction n with
  | zero => intro x34 x35 r h; cases h
  | succ n ih =>
    intro x34 x35 r h
    rw [halterref18_Write.l1] at h
    refine TripN.of_run cfg_ok (k := (.br (.one true (.one true (.one true (.br (.d (.b true) (.adj [] (.adj [.keep [1, 2, 5, 7, 8], .drop 3] .nil))) (.adj [.keep [2, 5, 7, 8], .drop 3] .nil))))) (.one false (.one false (.one false (.one false (.adj [.keep [2, 5, 7, 8], .drop 3] .nil))))))) (to_goal (q := (True) ∧ (True) ∧ (((decide (x35 < (((List.length a3) : Nat) : Int))) = true → ((decide (x35 < (((List.length a3) : Nat) : Int))) = true ∧ (True) ∧ ((decide (x35 < (((List.length a3) : Nat) : Int))) = true ∧ (True) ∧ ((decide (x35 < (((List.length a3) : Nat) : Int))) = true ∧ (((decide ((((List.length x34) : Nat) : Int) < (64 : Int))) = true → (0 ≤ x35 ∧ x35 < (((List.length a3) : Nat) : Int)) ∧ (True) ∧ ((0 = 0 ∧ 1 = 1) ∧ 0 = 0 ∧ (List.length x34) = (List.length x34) ∧ (((List.length x34) + 1) * 1 ≤ 140737488355328 ∧ (List.length x34) + 1 ≤ 9223372036854775807)) ∧ (True ∧ (True) ∧ (((True) ∧ (True) ∧ True) ∧ TripN cfg (cpath (Tryd.f12.body.getD .skip) [1, 1, 1, 1, 1, 1, 1, 0, 0, 0]) n (halterref18_Write.l1_S a0 a1 a2 a3 (x34 ++ [(List.getD a3 (Int.toNat x35) (0 : Int))]) (IntKind.wrap .i64 (x35 + (1 : Int)))) (halterref18_Write.l1_Q a0 a1 a2 a3 r)))) ∧ ((decide ((((List.length x34) : Nat) : Int) < (64 : Int))) = false → (((True) ∧ (True) ∧ True) ∧ halterref18_Write.l1_Q a0 a1 a2 a3 r (.exit 0) ⟨[.any, .any, .v (.one (.ptr 0 ⟨0, 0, 0, 0⟩)), .any, .any, .v (.one (.ptr 1 ⟨0, 0, 0, 0⟩)), .any, .v (.one (.os 2 0 0 1 (List.length x34) none)), .v (.one (.sc (.int .i64 x35))), .any, .any, .any, .any, .any, .any, .any, .any, .any, .any, .any, .any, .any, .any, .any, .any, .any, .any, .any, .any, .any, .any, .any, .any, .any, .any, .any, .any, .any, .any, .any, .any, .any, .any, .any, .any, .any, .any, .any, .any, .any, .any, .any, .any], [.ex false [.c (.fs (.int .u8) a0 false), .c (.sc (.int .i64 a1)), .c (.sc (.int .i64 a2))] 40, .ex false [.c (.sc (.slice none 0 0)), .c (.sc (.int .i64 (0 : Int))), .c (.sc (.int .i64 (0 : Int)))] 40, .gro false (.int .u8) x34 5], 0⟩))))))) ∧ ((decide (x35 < (((List.length a3) : Nat) : Int))) = false → ((decide (x35 < (((List.length a3) : Nat) : Int))) = false ∧ ((decide (x35 < (((List.length a3) : Nat) : Int))) = false ∧ ((decide (x35 < (((List.length a3) : Nat) : Int))) = false ∧ (false = false ∧ (((True) ∧ (True) ∧ True) ∧ halterref18_Write.l1_Q a0 a1 a2 a3 r (.exit 0) ⟨[.any, .any, .v (.one (.ptr 0 ⟨0, 0, 0, 0⟩)), .any, .any, .v (.one (.ptr 1 ⟨0, 0, 0, 0⟩)), .any, .v (.one (.os 2 0 0 1 (List.length x34) none)), .v (.one (.sc (.int .i64 x35))), .any, .any, .any, .any, .any, .any, .any, .any, .any, .any, .any, .any, .any, .any, .any, .any, .any, .any, .any, .any, .any, .any, .any, .any, .any, .any, .any, .any, .any, .any, .any, .any, .any, .any, .any, .any, .any, .any, .any, .any, .any, .any, .any, .any], [.ex false [.c (.fs (.int .u8) a0 false), .c (.sc (.int .i64 a1)), .c (.sc (.int .i64 a2))] 40, .ex false [.c (.sc (.slice none 0 0)), .c (.sc (.int .i64 (0 : Int))), .c (.sc (.int .i64 (0 : Int)))] 40, .gro false (.int .u8) x34 5], 0⟩)))))))) (by kernel_rfl) ?_)
    refine ⟨trivial, ?_⟩
    refine ⟨trivial, ?_⟩
    refine ⟨fun b43 => ?_, fun b43 => ?_⟩
    · rw [if_pos (of_decide_eq_true b43)] at h
      refine ⟨b43, ?_⟩
      refine ⟨trivial, ?_⟩
      refine ⟨b43, ?_⟩
      refine ⟨trivial, ?_⟩
      refine ⟨b43, ?_⟩
      refine ⟨fun b44 => ?_, fun b44 => ?_⟩
      · rw [if_pos (of_decide_eq_true b44)] at h
        obtain ⟨g46, h⟩ := of_guard h
        refine ⟨g46, ?_⟩
        refine ⟨trivial, ?_⟩
        obtain ⟨g45, h⟩ := of_guard h
        refine ⟨g45, ?_⟩
        refine ⟨trivial, ?_⟩
        refine ⟨trivial, ?_⟩
        exact ⟨⟨trivial, trivial, trivial⟩, ih (x34 ++ [(List.getD a3 (Int.toNat x35) (0 : Int))]) (IntKind.wrap .i64 (x35 + (1 : Int))) r h⟩
      · rw [if_neg (of_decide_eq_false b44)] at h
        obtain rfl := Option.some.inj h
        exact ⟨⟨trivial, trivial, trivial⟩, rfl, rfl⟩
    · rw [if_neg (of_decide_eq_false b43)] at h
      refine ⟨b43, ?_⟩
      refine ⟨b43, ?_⟩
      refine ⟨b43, ?_⟩
      refine ⟨rfl, ?_⟩
      obtain rfl := Option.some.inj h
      exact ⟨⟨trivial, trivial, trivial⟩, rfl, rfl⟩
def halterref18_Write.f (a0 : (List Int)) (a1 : Int) (a2 : Int) (a3 : (List Int)) : Option (Int × (List Int) × Int × Int × Int) :=
  (halterref18_May.f a0 a1 a2).bind fun t1 =>
  if ¬ (t1 = true) then
    some ((0 : Int), ([] : List Int), (0 : Int), (0 : Int), (22 : Int))
  else
    if a1 = (0 : Int) then
      some ((0 : Int), ([] : List Int), (0 : Int), (0 : Int), (32 : Int))
    else
      if (((List.length a3) : Nat) : Int) > (0 : Int) then
        if (((List.length a0) : Nat) : Int) = (64 : Int) then
          some ((0 : Int), ([] : List Int), (0 : Int), (0 : Int), (11 : Int))
        else
          if True ∧ ((List.length a0) * 1 ≤ 140737488355328 ∧ (List.length a0) ≤ 9223372036854775807) then
            (halterref18_Write.l0 a0 a1 a2 a3 FUEL a0 (0 : Int)).bind fun t19 =>
            some (t19.2, t19.1, a1, a2, (0 : Int))
          else none
      else
        if True ∧ ((List.length a0) * 1 ≤ 140737488355328 ∧ (List.length a0) ≤ 9223372036854775807) then
          (halterref18_Write.l1 a0 a1 a2 a3 FUEL a0 (0 : Int)).bind fun t42 =>
          some (t42.2, t42.1, a1, a2, (0 : Int))
        else none
def halterref18_Write.R (r : Int × (List Int) × Int × Int × Int) : Tm := .tup [.one (.sc (.int .i64 r.1)), .agg [.c (.fs (.int .u8) r.2.1 false), .c (.sc (.int .i64 r.2.2.1)), .c (.sc (.int .i64 r.2.2.2.1))], .one (.sc (.int .i64 r.2.2.2.2))]
theorem halterref18_Write.fun_ {a0 : (List Int)} {a1 : Int} {a2 : Int} {a3 : (List Int)} {r : Int × (List Int) × Int × Int × Int} (h : halterref18_Write.f a0 a1 a2 a3 = some r) : Fun cfg 12 [.agg [.c (.fs (.int .u8) a0 false), .c (.sc (.int .i64 a1)), .c (.sc (.int .i64 a2))], .one (.fs (.int .u8) a3 false)] [] (halterref18_Write.R r) [] := by
  unfold halterref18_Write.f at h
  refine fun_of_run cfg_ok (f := 12) (fn := Tryd.f12) Tryd.func12 rfl (by kernel_rfl) (rs := [.tmp 4, .cell 5 40, .tmp 6]) rfl (nt := 53) rfl (l := fin) (k := (.call true [] (Bool) (fun t1 => halterref18_May.R t1) (fun t1 => (.br (.adj [] (.adj [] (.adj [.co 1 true [(.int .u8)], .drop 0] .nil))) (.br (.adj [] (.adj [] (.adj [.co 1 true [(.int .u8)], .drop 0] .nil))) (.br (.one true (.one true (.one true (.one true (.br (.adj [] (.adj [] (.adj [.co 1 true [(.int .u8)], .drop 0] .nil))) (.d (.b false) (.adj [] (.adj [] (.adj [.keep [1, 2, 5, 7, 8]] (.sub ((List Int) × Int) (fun _ => (.exit 0)) (fun t19 => ⟨[.any, .any, .v (.one (.ptr 0 ⟨0, 0, 0, 0⟩)), .any, .any, .v (.one (.ptr 1 ⟨0, 0, 0, 0⟩)), .any, .v (.one (.os 2 0 0 1 (List.length t19.1) none)), .v (.one (.sc (.int .i64 t19.2))), .any, .any, .any, .any, .any, .any, .any, .any, .any, .any, .any, .any, .any, .any, .any, .any, .any, .any, .any, .any, .any, .any, .any, .any, .any, .any, .any, .any, .any, .any, .any, .any, .any, .any, .any, .any, .any, .any, .any, .any, .any, .any, .any, .any], [.ex false [.c (.fs (.int .u8) a0 false), .c (.sc (.int .i64 a1)), .c (.sc (.int .i64 a2))] 40, .ex false [.c (.sc (.slice none 0 0)), .c (.sc (.int .i64 (0 : Int))), .c (.sc (.int .i64 (0 : Int)))] 40, .gro false (.int .u8) t19.1 5], 0⟩) (fun t19 => (.dr [(0, dN), (2, dN), (1, dN), (3, dN), (4, dN)] (.adj [] (.adj [.co 1 true [], .drop 0] .nil)))))))))))))) (.one false (.one false (.one false (.one false (.one false (.d (.b false) (.adj [] (.adj [] (.adj [.keep [1, 2, 5, 7, 8]] (.sub ((List Int) × Int) (fun _ => (.exit 0)) (fun t42 => ⟨[.any, .any, .v (.one (.ptr 0 ⟨0, 0, 0, 0⟩)), .any, .any, .v (.one (.ptr 1 ⟨0, 0, 0, 0⟩)), .any, .v (.one (.os 2 0 0 1 (List.length t42.1) none)), .v (.one (.sc (.int .i64 t42.2))), .any, .any, .any, .any, .any, .any, .any, .any, .any, .any, .any, .any, .any, .any, .any, .any, .any, .any, .any, .any, .any, .any, .any, .any, .any, .any, .any, .any, .any, .any, .any, .any, .any, .any, .any, .any, .any, .any, .any, .any, .any, .any, .any, .any], [.ex false [.c (.fs (.int .u8) a0 false), .c (.sc (.int .i64 a1)), .c (.sc (.int .i64 a2))] 40, .ex false [.c (.sc (.slice none 0 0)), .c (.sc (.int .i64 (0 : Int))), .c (.sc (.int .i64 (0 : Int)))] 40, .gro false (.int .u8) t42.1 5], 0⟩) (fun t42 => (.dr [(0, dN), (2, dN), (1, dN), (3, dN), (4, dN)] (.adj [] (.adj [.co 1 true [], .drop 0] .nil)))))))))))))))))))) (to_goal (q := (True) ∧ (∃ t1 : Bool, (Fun cfg 17 [.agg [.c (.fs (.int .u8) a0 false), .c (.sc (.int .i64 a1)), .c (.sc (.int .i64 a2))]] [] (halterref18_May.R t1) [] ∧ True) ∧ (((!t1) = true → (True ∧ (True) ∧ (True ∧ (((True) ∧ True) ∧ ((True) ∧ (True) ∧ True) ∧ (.tup [.one (.sc (.int .i64 (0 : Int))), .agg [.c (.fs (.int .u8) ([] : List Int) false), .c (.sc (.int .i64 (0 : Int))), .c (.sc (.int .i64 (0 : Int)))], .one (.sc (.int .i64 (22 : Int)))] : Tm) = halterref18_Write.R r ∧ ([] : List Box) = [])))) ∧ ((!t1) = false → (True) ∧ (True) ∧ (((a1 == (0 : Int)) = true → (True ∧ (True) ∧ (True ∧ (((True) ∧ True) ∧ ((True) ∧ (True) ∧ True) ∧ (.tup [.one (.sc (.int .i64 (0 : Int))), .agg [.c (.fs (.int .u8) ([] : List Int) false), .c (.sc (.int .i64 (0 : Int))), .c (.sc (.int .i64 (0 : Int)))], .one (.sc (.int .i64 (32 : Int)))] : Tm) = halterref18_Write.R r ∧ ([] : List Box) = [])))) ∧ ((a1 == (0 : Int)) = false → (True) ∧ (True) ∧ (((decide ((((List.length a3) : Nat) : Int) > (0 : Int))) = true → ((decide ((((List.length a3) : Nat) : Int) > (0 : Int))) = true ∧ (True) ∧ ((decide ((((List.length a3) : Nat) : Int) > (0 : Int))) = true ∧ (True) ∧ ((decide ((((List.length a3) : Nat) : Int) > (0 : Int))) = true ∧ (True) ∧ ((decide ((((List.length a3) : Nat) : Int) > (0 : Int))) = true ∧ ((((((List.length a0) : Nat) : Int) == (64 : Int)) = true → (True ∧ (True) ∧ (True ∧ (((True) ∧ True) ∧ ((True) ∧ (True) ∧ True) ∧ (.tup [.one (.sc (.int .i64 (0 : Int))), .agg [.c (.fs (.int .u8) ([] : List Int) false), .c (.sc (.int .i64 (0 : Int))), .c (.sc (.int .i64 (0 : Int)))], .one (.sc (.int .i64 (11 : Int)))] : Tm) = halterref18_Write.R r ∧ ([] : List Box) = [])))) ∧ (((((List.length a0) : Nat) : Int) == (64 : Int)) = false → (True) ∧ (True ∧ ((List.length a0) * 1 ≤ 140737488355328 ∧ (List.length a0) ≤ 9223372036854775807)) ∧ (True ∧ (True ∧ (((True) ∧ True) ∧ (∃ t19 : (List Int) × Int, Trip cfg (.loop (cpath (Tryd.f12.body.getD .skip) [1, 1, 1, 1, 1, 1, 1, 0, 0, 0])) ⟨[.any, .v (.one (.fs (.int .u8) a3 false)), .v (.one (.ptr 0 ⟨0, 0, 0, 0⟩)), .any, .any, .v (.one (.ptr 1 ⟨0, 0, 0, 0⟩)), .any, .v (.one (.os 2 0 0 1 (List.length a0) none)), .v (.one (.sc (.int .i64 (0 : Int)))), .any, .any, .any, .any, .any, .any, .any, .any, .any, .any, .any, .any, .any, .any, .any, .any, .any, .any, .any, .any, .any, .any, .any, .any, .any, .any, .any, .any, .any, .any, .any, .any, .any, .any, .any, .any, .any, .any, .any, .any, .any, .any, .any, .any], [.ex false [.c (.fs (.int .u8) a0 false), .c (.sc (.int .i64 a1)), .c (.sc (.int .i64 a2))] 40, .ex false [.c (.sc (.slice none 0 0)), .c (.sc (.int .i64 (0 : Int))), .c (.sc (.int .i64 (0 : Int)))] 40, .gro false (.int .u8) a0 5], 0⟩ (fun e s => e = (.exit 0) ∧ s = ⟨[.any, .any, .v (.one (.ptr 0 ⟨0, 0, 0, 0⟩)), .any, .any, .v (.one (.ptr 1 ⟨0, 0, 0, 0⟩)), .any, .v (.one (.os 2 0 0 1 (List.length t19.1) none)), .v (.one (.sc (.int .i64 t19.2))), .any, .any, .any, .any, .any, .any, .any, .any, .any, .any, .any, .any, .any, .any, .any, .any, .any, .any, .any, .any, .any, .any, .any, .any, .any, .any, .any, .any, .any, .any, .any, .any, .any, .any, .any, .any, .any, .any, .any, .any, .any, .any, .any, .any], [.ex false [.c (.fs (.int .u8) a0 false), .c (.sc (.int .i64 a1)), .c (.sc (.int .i64 a2))] 40, .ex false [.c (.sc (.slice none 0 0)), .c (.sc (.int .i64 (0 : Int))), .c (.sc (.int .i64 (0 : Int)))] 40, .gro false (.int .u8) t19.1 5], 0⟩) ∧ (True) ∧ (True) ∧ (True) ∧ (True ∧ (((True) ∧ True) ∧ ((((0 = 0 ∧ (List.length t19.1) = (List.length t19.1))) ∧ True) ∧ (True) ∧ True) ∧ (.tup [.one (.sc (.int .i64 t19.2)), .agg [.c (.fs (.int .u8) t19.1 false), .c (.sc (.int .i64 a1)), .c (.sc (.int .i64 a2))], .one (.sc (.int .i64 (0 : Int)))] : Tm) = halterref18_Write.R r ∧ ([] : List Box) = []))))))))))))) ∧ ((decide ((((List.length a3) : Nat) : Int) > (0 : Int))) = false → ((decide ((((List.length a3) : Nat) : Int) > (0 : Int))) = false ∧ ((decide ((((List.length a3) : Nat) : Int) > (0 : Int))) = false ∧ ((decide ((((List.length a3) : Nat) : Int) > (0 : Int))) = false ∧ ((decide ((((List.length a3) : Nat) : Int) > (0 : Int))) = false ∧ (false = false ∧ (True) ∧ (True ∧ ((List.length a0) * 1 ≤ 140737488355328 ∧ (List.length a0) ≤ 9223372036854775807)) ∧ (True ∧ (True ∧ (((True) ∧ True) ∧ (∃ t42 : (List Int) × Int, Trip cfg (.loop (cpath (Tryd.f12.body.getD .skip) [1, 1, 1, 1, 1, 1, 1, 0, 0, 0])) ⟨[.any, .v (.one (.fs (.int .u8) a3 false)), .v (.one (.ptr 0 ⟨0, 0, 0, 0⟩)), .any, .any, .v (.one (.ptr 1 ⟨0, 0, 0, 0⟩)), .any, .v (.one (.os 2 0 0 1 (List.length a0) none)), .v (.one (.sc (.int .i64 (0 : Int)))), .any, .any, .any, .any, .any, .any, .any, .any, .any, .any, .any, .any, .any, .any, .any, .any, .any, .any, .any, .any, .any, .any, .any, .any, .any, .any, .any, .any, .any, .any, .any, .any, .any, .any, .any, .any, .any, .any, .any, .any, .any, .any, .any, .any], [.ex false [.c (.fs (.int .u8) a0 false), .c (.sc (.int .i64 a1)), .c (.sc (.int .i64 a2))] 40, .ex false [.c (.sc (.slice none 0 0)), .c (.sc (.int .i64 (0 : Int))), .c (.sc (.int .i64 (0 : Int)))] 40, .gro false (.int .u8) a0 5], 0⟩ (fun e s => e = (.exit 0) ∧ s = ⟨[.any, .any, .v (.one (.ptr 0 ⟨0, 0, 0, 0⟩)), .any, .any, .v (.one (.ptr 1 ⟨0, 0, 0, 0⟩)), .any, .v (.one (.os 2 0 0 1 (List.length t42.1) none)), .v (.one (.sc (.int .i64 t42.2))), .any, .any, .any, .any, .any, .any, .any, .any, .any, .any, .any, .any, .any, .any, .any, .any, .any, .any, .any, .any, .any, .any, .any, .any, .any, .any, .any, .any, .any, .any, .any, .any, .any, .any, .any, .any, .any, .any, .any, .any, .any, .any, .any, .any], [.ex false [.c (.fs (.int .u8) a0 false), .c (.sc (.int .i64 a1)), .c (.sc (.int .i64 a2))] 40, .ex false [.c (.sc (.slice none 0 0)), .c (.sc (.int .i64 (0 : Int))), .c (.sc (.int .i64 (0 : Int)))] 40, .gro false (.int .u8) t42.1 5], 0⟩) ∧ (True) ∧ (True) ∧ (True) ∧ (True ∧ (((True) ∧ True) ∧ ((((0 = 0 ∧ (List.length t42.1) = (List.length t42.1))) ∧ True) ∧ (True) ∧ True) ∧ (.tup [.one (.sc (.int .i64 t42.2)), .agg [.c (.fs (.int .u8) t42.1 false), .c (.sc (.int .i64 a1)), .c (.sc (.int .i64 a2))], .one (.sc (.int .i64 (0 : Int)))] : Tm) = halterref18_Write.R r ∧ ([] : List Box) = []))))))))))))))))))) (by kernel_rfl) ?_)
  refine ⟨trivial, ?_⟩
  obtain ⟨t1, ht1, h⟩ := of_bind h
  refine ⟨t1, ⟨halterref18_May.fun_ ht1, trivial⟩, ?_⟩
  refine ⟨fun b2 => ?_, fun b2 => ?_⟩
  · rw [if_pos (ff (not_t b2))] at h
    refine ⟨trivial, ?_⟩
    refine ⟨trivial, ?_⟩
    refine ⟨trivial, ?_⟩
    obtain rfl := Option.some.inj h
    exact ⟨⟨trivial, trivial⟩, ⟨trivial, trivial, trivial⟩, rfl, rfl⟩
  · rw [if_neg (not_not_intro (not_f b2))] at h
    refine ⟨trivial, ?_⟩
    refine ⟨trivial, ?_⟩
    refine ⟨fun b3 => ?_, fun b3 => ?_⟩
    · rw [if_pos (beq_t b3)] at h
      refine ⟨trivial, ?_⟩
      refine ⟨trivial, ?_⟩
      refine ⟨trivial, ?_⟩
      obtain rfl := Option.some.inj h
      exact ⟨⟨trivial, trivial⟩, ⟨trivial, trivial, trivial⟩, rfl, rfl⟩
    · rw [if_neg (beq_f b3)] at h
      refine ⟨trivial, ?_⟩
      refine ⟨trivial, ?_⟩
      refine ⟨fun b4 => ?_, fun b4 => ?_⟩
      · rw [if_pos (of_decide_eq_true b4)] at h
        refine ⟨b4, ?_⟩
        refine ⟨trivial, ?_⟩
        refine ⟨b4, ?_⟩
        refine ⟨trivial, ?_⟩
        refine ⟨b4, ?_⟩
        refine ⟨trivial, ?_⟩
        refine ⟨b4, ?_⟩
        refine ⟨fun b5 => ?_, fun b5 => ?_⟩
        · rw [if_pos (beq_t b5)] at h
          refine ⟨trivial, ?_⟩
          refine ⟨trivial, ?_⟩
          refine ⟨trivial, ?_⟩
          obtain rfl := Option.some.inj h
          exact ⟨⟨trivial, trivial⟩, ⟨trivial, trivial, trivial⟩, rfl, rfl⟩
        · rw [if_neg (beq_f b5)] at h
          refine ⟨trivial, ?_⟩
          obtain ⟨g28, h⟩ := of_guard h
          refine ⟨g28, ?_⟩
          refine ⟨trivial, ?_⟩
          refine ⟨trivial, ?_⟩
          obtain ⟨t19, ht19, h⟩ := of_bind h
          refine ⟨⟨trivial, trivial⟩, t19, Trip.loop FUEL (halterref18_Write.l0_ok a0 a1 a2 a3 FUEL a0 (0 : Int) t19 ht19), ?_⟩
          refine ⟨trivial, ?_⟩
          refine ⟨trivial, trivial, ?_⟩
          refine ⟨trivial, ?_⟩
          obtain rfl := Option.some.inj h
          exact ⟨⟨trivial, trivial⟩, ⟨⟨⟨rfl, rfl⟩, trivial⟩, trivial, trivial⟩, rfl, rfl⟩
      · rw [if_neg (of_decide_eq_false b4)] at h
        refine ⟨b4, ?_⟩
        refine ⟨b4, ?_⟩
        refine ⟨b4, ?_⟩
        refine ⟨b4, ?_⟩
        refine ⟨rfl, ?_⟩
        refine ⟨trivial, ?_⟩
        obtain ⟨g51, h⟩ := of_guard h
        refine ⟨g51, ?_⟩
        refine ⟨trivial, ?_⟩
        refine ⟨trivial, ?_⟩
        obtain ⟨t42, ht42, h⟩ := of_bind h
        refine ⟨⟨trivial, trivial⟩, t42, Trip.loop FUEL (halterref18_Write.l1_ok a0 a1 a2 a3 FUEL a0 (0 : Int) t42 ht42), ?_⟩
        refine ⟨trivial, ?_⟩
        refine ⟨trivial, trivial, ?_⟩
        refine ⟨trivial, ?_⟩
        obtain rfl := Option.some.inj h
        exact ⟨⟨trivial, trivial⟩, ⟨⟨⟨rfl, rfl⟩, trivial⟩, trivial, trivial⟩, rfl, rfl⟩
/-! halter/halterlaw18.same -/
def halterlaw18_same.f (a0 : (List Int)) (a1 : Int) (a2 : Int) (a3 : (List Int)) (a4 : Int) (a5 : Int) : Option Bool :=
  if (strOfNums a0) = (strOfNums a3) then
    if a1 = a4 then
      some (a2 == a5)
    else
      some false
  else
    some false
def halterlaw18_same.R (r : Bool) : Tm := .v (.one (.sc (.bool r)))
theorem halterlaw18_same.fun_ {a0 : (List Int)} {a1 : Int} {a2 : Int} {a3 : (List Int)} {a4 : Int} {a5 : Int} {r : Bool} (h : halterlaw18_same.f a0 a1 a2 a3 a4 a5 = some r) : Fun cfg 13 [.agg [.c (.fs (.int .u8) a0 false), .c (.sc (.int .i64 a1)), .c (.sc (.int .i64 a2))], .agg [.c (.fs (.int .u8) a3 false), .c (.sc (.int .i64 a4)), .c (.sc (.int .i64 a5))]] [] (halterlaw18_same.R r) [] := by
  unfold halterlaw18_same.f at h
  refine fun_of_run cfg_ok (f := 13) (fn := Tryd.f13) Tryd.func13 rfl (by kernel_rfl) (rs := [.tmp 4]) rfl (nt := 26) rfl (l := fin) (k := (.d (.b false) (.d (.b false) (.br (.one true (.one true (.one true (.one true (.one true (.br (.one true (.one true (.one true (.one true (.one true (.adj [] (.adj [.drop 0] .nil))))))) (.one false (.one false (.one false (.one false (.one false (.adj [] (.adj [.drop 0] .nil))))))))))))) (.one false (.one false (.one false (.one false (.one false (.one false (.one false (.one false (.one false (.one false (.one false (.adj [] (.adj [.drop 0] .nil))))))))))))))))) (to_goal (q := (True) ∧ (True) ∧ (True) ∧ (True) ∧ (True) ∧ ((((strOfNums a0).toList == (strOfNums a3).toList) = true → (((strOfNums a0).toList == (strOfNums a3).toList) = true ∧ (True) ∧ (((strOfNums a0).toList == (strOfNums a3).toList) = true ∧ (((strOfNums a0).toList == (strOfNums a3).toList) = true ∧ (True) ∧ (((strOfNums a0).toList == (strOfNums a3).toList) = true ∧ (True) ∧ (((strOfNums a0).toList == (strOfNums a3).toList) = true ∧ (((a1 == a4) = true → ((a1 == a4) = true ∧ (True) ∧ ((a1 == a4) = true ∧ ((a1 == a4) = true ∧ (True) ∧ ((a1 == a4) = true ∧ (True) ∧ ((a1 == a4) = true ∧ (True ∧ ((True) ∧ ((True) ∧ True) ∧ (.v (.one (.sc (.bool (a2 == a5)))) : Tm) = halterlaw18_same.R r ∧ ([] : List Box) = [])))))))) ∧ ((a1 == a4) = false → ((a1 == a4) = false ∧ ((a1 == a4) = false ∧ ((a1 == a4) = false ∧ ((a1 == a4) = false ∧ ((a1 == a4) = false ∧ (True ∧ ((True) ∧ ((True) ∧ True) ∧ (.v (.one (.sc (.bool false))) : Tm) = halterlaw18_same.R r ∧ ([] : List Box) = []))))))))))))))) ∧ (((strOfNums a0).toList == (strOfNums a3).toList) = false → (((strOfNums a0).toList == (strOfNums a3).toList) = false ∧ (((strOfNums a0).toList == (strOfNums a3).toList) = false ∧ (((strOfNums a0).toList == (strOfNums a3).toList) = false ∧ (((strOfNums a0).toList == (strOfNums a3).toList) = false ∧ (((strOfNums a0).toList == (strOfNums a3).toList) = false ∧ (false = false ∧ (false = false ∧ (false = false ∧ (false = false ∧ (false = false ∧ (false = false ∧ (True ∧ ((True) ∧ ((True) ∧ True) ∧ (.v (.one (.sc (.bool false))) : Tm) = halterlaw18_same.R r ∧ ([] : List Box) = [])))))))))))))))) (by kernel_rfl) ?_)
  refine ⟨trivial, ?_⟩
  refine ⟨trivial, ?_⟩
  refine ⟨trivial, ?_⟩
  refine ⟨trivial, ?_⟩
  refine ⟨trivial, ?_⟩
  refine ⟨fun b1 => ?_, fun b1 => ?_⟩
  · rw [if_pos (str_t b1)] at h
    refine ⟨b1, ?_⟩
    refine ⟨trivial, ?_⟩
    refine ⟨b1, ?_⟩
    refine ⟨b1, ?_⟩
    refine ⟨trivial, ?_⟩
    refine ⟨b1, ?_⟩
    refine ⟨trivial, ?_⟩
    refine ⟨b1, ?_⟩
    refine ⟨fun b2 => ?_, fun b2 => ?_⟩
    · rw [if_pos (beq_t b2)] at h
      refine ⟨b2, ?_⟩
      refine ⟨trivial, ?_⟩
      refine ⟨b2, ?_⟩
      refine ⟨b2, ?_⟩
      refine ⟨trivial, ?_⟩
      refine ⟨b2, ?_⟩
      refine ⟨trivial, ?_⟩
      refine ⟨b2, ?_⟩
      refine ⟨trivial, ?_⟩
      obtain rfl := Option.some.inj h
      exact ⟨trivial, ⟨trivial, trivial⟩, rfl, rfl⟩
    · rw [if_neg (beq_f b2)] at h
      refine ⟨b2, ?_⟩
      refine ⟨b2, ?_⟩
      refine ⟨b2, ?_⟩
      refine ⟨b2, ?_⟩
      refine ⟨b2, ?_⟩
      refine ⟨trivial, ?_⟩
      obtain rfl := Option.some.inj h
      exact ⟨trivial, ⟨trivial, trivial⟩, rfl, rfl⟩
  · rw [if_neg (str_f b1)] at h
    refine ⟨b1, ?_⟩
    refine ⟨b1, ?_⟩
    refine ⟨b1, ?_⟩
    refine ⟨b1, ?_⟩
    refine ⟨b1, ?_⟩
    refine ⟨rfl, ?_⟩
    refine ⟨rfl, ?_⟩
    refine ⟨rfl, ?_⟩
    refine ⟨rfl, ?_⟩
    refine ⟨rfl, ?_⟩
    refine ⟨rfl, ?_⟩
    refine ⟨trivial, ?_⟩
    obtain rfl := Option.some.inj h
    exact ⟨trivial, ⟨trivial, trivial⟩, rfl, rfl⟩
/-! halter/pipe.moved -/
def pipe_moved.f (a0 : (List Int)) (a1 : Int) (a2 : Int) (a3 : Bool) (a4 : Int) : Option ((List Int) × Int × Int × (Option Int)) :=
  (pipe_Check.f a0 a1 a2).bind fun t1 =>
  if ¬ (t1 = none) then
    some (([] : List Int), (0 : Int), (0 : Int), (some (22 : Int)))
  else
    if a3 = true then
      (slices_Clone_byte_byte.f a0).bind fun t4 =>
      if a1 = (0 : Int) then
        (pipe_Check.f ([] : List Int) a1 (IntKind.wrap .i64 (a2 + a4))).bind fun t6 =>
        if ¬ (t6 = none) then
          some (([] : List Int), (0 : Int), (0 : Int), (some (22 : Int)))
        else
          some (([] : List Int), a1, (IntKind.wrap .i64 (a2 + a4)), none)
      else
        (pipe_Check.f t4 a1 (IntKind.wrap .i64 (a2 + a4))).bind fun t8 =>
        if ¬ (t8 = none) then
          some (([] : List Int), (0 : Int), (0 : Int), (some (22 : Int)))
        else
          some (t4, a1, (IntKind.wrap .i64 (a2 + a4)), none)
    else
      (slices_Clone_byte_byte.f a0).bind fun t10 =>
      if (IntKind.wrap .i64 (a1 + a4)) = (0 : Int) then
        (pipe_Check.f ([] : List Int) (IntKind.wrap .i64 (a1 + a4)) a2).bind fun t12 =>
        if ¬ (t12 = none) then
          some (([] : List Int), (0 : Int), (0 : Int), (some (22 : Int)))
        else
          some (([] : List Int), (IntKind.wrap .i64 (a1 + a4)), a2, none)
      else
        (pipe_Check.f t10 (IntKind.wrap .i64 (a1 + a4)) a2).bind fun t14 =>
        if ¬ (t14 = none) then
          some (([] : List Int), (0 : Int), (0 : Int), (some (22 : Int)))
        else
          some (t10, (IntKind.wrap .i64 (a1 + a4)), a2, none)
def pipe_moved.R (r : (List Int) × Int × Int × (Option Int)) : Tm := .tup [.agg [.c (.fs (.int .u8) r.1 false), .c (.sc (.int .i64 r.2.1)), .c (.sc (.int .i64 r.2.2.1))], .one (.err r.2.2.2)]
theorem pipe_moved.fun_ {a0 : (List Int)} {a1 : Int} {a2 : Int} {a3 : Bool} {a4 : Int} {r : (List Int) × Int × Int × (Option Int)} (h : pipe_moved.f a0 a1 a2 a3 a4 = some r) : Fun cfg 18 [.agg [.c (.fs (.int .u8) a0 false), .c (.sc (.int .i64 a1)), .c (.sc (.int .i64 a2))], .one (.sc (.bool a3)), .one (.sc (.int .i64 a4))] [] (pipe_moved.R r) [] := by
  unfold pipe_moved.f at h
  refine fun_of_run cfg_ok (f := 18) (fn := Tryd.f18) Tryd.func18 rfl (by kernel_rfl) (rs := [.cell 6 25, .tmp 7]) rfl (nt := 38) rfl (l := fin) (k := (.call true [] ((Option Int)) (fun t1 => pipe_Check.R t1) (fun t1 => (.br (.adj [] (.adj [] (.adj [.co 0 true [(.int .u8)], .drop 0] .nil))) (.br (.call true [] ((List Int)) (fun t4 => slices_Clone_byte_byte.R t4) (fun t4 => (.br (.call true [(.int .u8)] ((Option Int)) (fun t6 => pipe_Check.R t6) (fun t6 => (.br (.adj [] (.adj [] (.adj [.co 0 true [(.int .u8)], .drop 0] .nil))) (.adj [] (.adj [] (.adj [] (.adj [.co 0 true [(.int .u8)], .drop 0] .nil))))))) (.call true [] ((Option Int)) (fun t8 => pipe_Check.R t8) (fun t8 => (.br (.adj [] (.adj [] (.adj [.co 0 true [(.int .u8)], .drop 0] .nil))) (.adj [] (.adj [] (.adj [] (.adj [.drop 0] .nil)))))))))) (.call true [] ((List Int)) (fun t10 => slices_Clone_byte_byte.R t10) (fun t10 => (.br (.call true [(.int .u8)] ((Option Int)) (fun t12 => pipe_Check.R t12) (fun t12 => (.br (.adj [] (.adj [] (.adj [.co 0 true [(.int .u8)], .drop 0] .nil))) (.adj [] (.adj [] (.adj [] (.adj [.co 0 true [(.int .u8)], .drop 0] .nil))))))) (.call true [] ((Option Int)) (fun t14 => pipe_Check.R t14) (fun t14 => (.br (.adj [] (.adj [] (.adj [.co 0 true [(.int .u8)], .drop 0] .nil))) (.adj [] (.adj [] (.adj [] (.adj [.drop 0] .nil))))))))))))))) (to_goal (q := (True) ∧ (∃ t1 : (Option Int), (Fun cfg 16 [.agg [.c (.fs (.int .u8) a0 false), .c (.sc (.int .i64 a1)), .c (.sc (.int .i64 a2))]] [] (pipe_Check.R t1) [] ∧ True) ∧ (True) ∧ (((!(Option.isNone t1)) = true → (True ∧ (True) ∧ (True ∧ (((True) ∧ True) ∧ ((True) ∧ (True) ∧ True) ∧ (.tup [.agg [.c (.fs (.int .u8) ([] : List Int) false), .c (.sc (.int .i64 (0 : Int))), .c (.sc (.int .i64 (0 : Int)))], .one (.err (some (22 : Int)))] : Tm) = pipe_moved.R r ∧ ([] : List Box) = [])))) ∧ ((!(Option.isNone t1)) = false → ((a3 = true → (True) ∧ (True) ∧ (True) ∧ (True) ∧ (∃ t4 : (List Int), (Fun cfg 21 [.one (.fs (.int .u8) a0 false)] [] (slices_Clone_byte_byte.R t4) [] ∧ True) ∧ (True) ∧ (True) ∧ (True) ∧ (((a1 == (0 : Int)) = true → (True) ∧ (True) ∧ (∃ t6 : (Option Int), (Fun cfg 16 [.agg [.c (.fs (.int .u8) ([] : List Int) false), .c (.sc (.int .i64 a1)), .c (.sc (.int .i64 (IntKind.wrap .i64 (a2 + a4))))]] [] (pipe_Check.R t6) [] ∧ True) ∧ (True) ∧ (((!(Option.isNone t6)) = true → (True ∧ (True) ∧ (True ∧ (((True) ∧ True) ∧ ((True) ∧ (True) ∧ True) ∧ (.tup [.agg [.c (.fs (.int .u8) ([] : List Int) false), .c (.sc (.int .i64 (0 : Int))), .c (.sc (.int .i64 (0 : Int)))], .one (.err (some (22 : Int)))] : Tm) = pipe_moved.R r ∧ ([] : List Box) = [])))) ∧ ((!(Option.isNone t6)) = false → (True ∧ (True ∧ (True) ∧ (True) ∧ (True ∧ (((True) ∧ True) ∧ ((True) ∧ (True) ∧ True) ∧ (.tup [.agg [.c (.fs (.int .u8) ([] : List Int) false), .c (.sc (.int .i64 a1)), .c (.sc (.int .i64 (IntKind.wrap .i64 (a2 + a4))))], .one (.err none)] : Tm) = pipe_moved.R r ∧ ([] : List Box) = [])))))))) ∧ ((a1 == (0 : Int)) = false → (True) ∧ (∃ t8 : (Option Int), (Fun cfg 16 [.agg [.c (.fs (.int .u8) t4 false), .c (.sc (.int .i64 a1)), .c (.sc (.int .i64 (IntKind.wrap .i64 (a2 + a4))))]] [] (pipe_Check.R t8) [] ∧ True) ∧ (True) ∧ (((!(Option.isNone t8)) = true → (True ∧ (True) ∧ (True ∧ (((True) ∧ True) ∧ ((True) ∧ (True) ∧ True) ∧ (.tup [.agg [.c (.fs (.int .u8) ([] : List Int) false), .c (.sc (.int .i64 (0 : Int))), .c (.sc (.int .i64 (0 : Int)))], .one (.err (some (22 : Int)))] : Tm) = pipe_moved.R r ∧ ([] : List Box) = [])))) ∧ ((!(Option.isNone t8)) = false → (True ∧ (True ∧ (True) ∧ (True) ∧ (True ∧ (((True) ∧ True) ∧ ((True) ∧ True) ∧ (.tup [.agg [.c (.fs (.int .u8) t4 false), .c (.sc (.int .i64 a1)), .c (.sc (.int .i64 (IntKind.wrap .i64 (a2 + a4))))], .one (.err none)] : Tm) = pipe_moved.R r ∧ ([] : List Box) = []))))))))))) ∧ (a3 = false → (True) ∧ (True) ∧ (True) ∧ (True) ∧ (∃ t10 : (List Int), (Fun cfg 21 [.one (.fs (.int .u8) a0 false)] [] (slices_Clone_byte_byte.R t10) [] ∧ True) ∧ (True) ∧ (True) ∧ (True) ∧ ((((IntKind.wrap .i64 (a1 + a4)) == (0 : Int)) = true → (True) ∧ (True) ∧ (∃ t12 : (Option Int), (Fun cfg 16 [.agg [.c (.fs (.int .u8) ([] : List Int) false), .c (.sc (.int .i64 (IntKind.wrap .i64 (a1 + a4)))), .c (.sc (.int .i64 a2))]] [] (pipe_Check.R t12) [] ∧ True) ∧ (True) ∧ (((!(Option.isNone t12)) = true → (True ∧ (True) ∧ (True ∧ (((True) ∧ True) ∧ ((True) ∧ (True) ∧ True) ∧ (.tup [.agg [.c (.fs (.int .u8) ([] : List Int) false), .c (.sc (.int .i64 (0 : Int))), .c (.sc (.int .i64 (0 : Int)))], .one (.err (some (22 : Int)))] : Tm) = pipe_moved.R r ∧ ([] : List Box) = [])))) ∧ ((!(Option.isNone t12)) = false → (True ∧ (True ∧ (True) ∧ (True) ∧ (True ∧ (((True) ∧ True) ∧ ((True) ∧ (True) ∧ True) ∧ (.tup [.agg [.c (.fs (.int .u8) ([] : List Int) false), .c (.sc (.int .i64 (IntKind.wrap .i64 (a1 + a4)))), .c (.sc (.int .i64 a2))], .one (.err none)] : Tm) = pipe_moved.R r ∧ ([] : List Box) = [])))))))) ∧ (((IntKind.wrap .i64 (a1 + a4)) == (0 : Int)) = false → (True) ∧ (∃ t14 : (Option Int), (Fun cfg 16 [.agg [.c (.fs (.int .u8) t10 false), .c (.sc (.int .i64 (IntKind.wrap .i64 (a1 + a4)))), .c (.sc (.int .i64 a2))]] [] (pipe_Check.R t14) [] ∧ True) ∧ (True) ∧ (((!(Option.isNone t14)) = true → (True ∧ (True) ∧ (True ∧ (((True) ∧ True) ∧ ((True) ∧ (True) ∧ True) ∧ (.tup [.agg [.c (.fs (.int .u8) ([] : List Int) false), .c (.sc (.int .i64 (0 : Int))), .c (.sc (.int .i64 (0 : Int)))], .one (.err (some (22 : Int)))] : Tm) = pipe_moved.R r ∧ ([] : List Box) = [])))) ∧ ((!(Option.isNone t14)) = false → (True ∧ (True ∧ (True) ∧ (True) ∧ (True ∧ (((True) ∧ True) ∧ ((True) ∧ True) ∧ (.tup [.agg [.c (.fs (.int .u8) t10 false), .c (.sc (.int .i64 (IntKind.wrap .i64 (a1 + a4)))), .c (.sc (.int .i64 a2))], .one (.err none)] : Tm) = pipe_moved.R r ∧ ([] : List Box) = [])))))))))))))))) (by kernel_rfl) ?_)
  refine ⟨trivial, ?_⟩
  obtain ⟨t1, ht1, h⟩ := of_bind h
  refine ⟨t1, ⟨pipe_Check.fun_ ht1, trivial⟩, ?_⟩
  refine ⟨trivial, ?_⟩
  refine ⟨fun b2 => ?_, fun b2 => ?_⟩
  · rw [if_pos (none_f (not_t b2))] at h
    refine ⟨trivial, ?_⟩
    refine ⟨trivial, ?_⟩
    refine ⟨trivial, ?_⟩
    obtain rfl := Option.some.inj h
    exact ⟨⟨trivial, trivial⟩, ⟨trivial, trivial, trivial⟩, rfl, rfl⟩
  · rw [if_neg (not_not_intro (none_t (not_f b2)))] at h
    refine ⟨fun b3 => ?_, fun b3 => ?_⟩
    · rw [if_pos b3] at h
      refine ⟨trivial, ?_⟩
      refine ⟨trivial, ?_⟩
      refine ⟨trivial, ?_⟩
      refine ⟨trivial, ?_⟩
      obtain ⟨t4, ht4, h⟩ := of_bind h
      refine ⟨t4, ⟨slices_Clone_byte_byte.fun_ ht4, trivial⟩, ?_⟩
      refine ⟨trivial, ?_⟩
      refine ⟨trivial, ?_⟩
      refine ⟨trivial, ?_⟩
      refine ⟨fun b5 => ?_, fun b5 => ?_⟩
      · rw [if_pos (beq_t b5)] at h
        refine ⟨trivial, ?_⟩
        refine ⟨trivial, ?_⟩
        obtain ⟨t6, ht6, h⟩ := of_bind h
        refine ⟨t6, ⟨pipe_Check.fun_ ht6, trivial⟩, ?_⟩
        refine ⟨trivial, ?_⟩
        refine ⟨fun b7 => ?_, fun b7 => ?_⟩
        · rw [if_pos (none_f (not_t b7))] at h
          refine ⟨trivial, ?_⟩
          refine ⟨trivial, ?_⟩
          refine ⟨trivial, ?_⟩
          obtain rfl := Option.some.inj h
          exact ⟨⟨trivial, trivial⟩, ⟨trivial, trivial, trivial⟩, rfl, rfl⟩
        · rw [if_neg (not_not_intro (none_t (not_f b7)))] at h
          refine ⟨trivial, ?_⟩
          refine ⟨trivial, ?_⟩
          refine ⟨trivial, ?_⟩
          refine ⟨trivial, ?_⟩
          refine ⟨trivial, ?_⟩
          obtain rfl := Option.some.inj h
          exact ⟨⟨trivial, trivial⟩, ⟨trivial, trivial, trivial⟩, rfl, rfl⟩
      · rw [if_neg (beq_f b5)] at h
        refine ⟨trivial, ?_⟩
        obtain ⟨t8, ht8, h⟩ := of_bind h
        refine ⟨t8, ⟨pipe_Check.fun_ ht8, trivial⟩, ?_⟩
        refine ⟨trivial, ?_⟩
        refine ⟨fun b9 => ?_, fun b9 => ?_⟩
        · rw [if_pos (none_f (not_t b9))] at h
          refine ⟨trivial, ?_⟩
          refine ⟨trivial, ?_⟩
          refine ⟨trivial, ?_⟩
          obtain rfl := Option.some.inj h
          exact ⟨⟨trivial, trivial⟩, ⟨trivial, trivial, trivial⟩, rfl, rfl⟩
        · rw [if_neg (not_not_intro (none_t (not_f b9)))] at h
          refine ⟨trivial, ?_⟩
          refine ⟨trivial, ?_⟩
          refine ⟨trivial, ?_⟩
          refine ⟨trivial, ?_⟩
          refine ⟨trivial, ?_⟩
          obtain rfl := Option.some.inj h
          exact ⟨⟨trivial, trivial⟩, ⟨trivial, trivial⟩, rfl, rfl⟩
    · rw [if_neg (ff b3)] at h
      refine ⟨trivial, ?_⟩
      refine ⟨trivial, ?_⟩
      refine ⟨trivial, ?_⟩
      refine ⟨trivial, ?_⟩
      obtain ⟨t10, ht10, h⟩ := of_bind h
      refine ⟨t10, ⟨slices_Clone_byte_byte.fun_ ht10, trivial⟩, ?_⟩
      refine ⟨trivial, ?_⟩
      refine ⟨trivial, ?_⟩
      refine ⟨trivial, ?_⟩
      refine ⟨fun b11 => ?_, fun b11 => ?_⟩
      · rw [if_pos (beq_t b11)] at h
        refine ⟨trivial, ?_⟩
        refine ⟨trivial, ?_⟩
        obtain ⟨t12, ht12, h⟩ := of_bind h
        refine ⟨t12, ⟨pipe_Check.fun_ ht12, trivial⟩, ?_⟩
        refine ⟨trivial, ?_⟩
        refine ⟨fun b13 => ?_, fun b13 => ?_⟩
        · rw [if_pos (none_f (not_t b13))] at h
          refine ⟨trivial, ?_⟩
          refine ⟨trivial, ?_⟩
          refine ⟨trivial, ?_⟩
          obtain rfl := Option.some.inj h
          exact ⟨⟨trivial, trivial⟩, ⟨trivial, trivial, trivial⟩, rfl, rfl⟩
        · rw [if_neg (not_not_intro (none_t (not_f b13)))] at h
          refine ⟨trivial, ?_⟩
          refine ⟨trivial, ?_⟩
          refine ⟨trivial, ?_⟩
          refine ⟨trivial, ?_⟩
          refine ⟨trivial, ?_⟩
          obtain rfl := Option.some.inj h
          exact ⟨⟨trivial, trivial⟩, ⟨trivial, trivial, trivial⟩, rfl, rfl⟩
      · rw [if_neg (beq_f b11)] at h
        refine ⟨trivial, ?_⟩
        obtain ⟨t14, ht14, h⟩ := of_bind h
        refine ⟨t14, ⟨pipe_Check.fun_ ht14, trivial⟩, ?_⟩
        refine ⟨trivial, ?_⟩
        refine ⟨fun b15 => ?_, fun b15 => ?_⟩
        · rw [if_pos (none_f (not_t b15))] at h
          refine ⟨trivial, ?_⟩
          refine ⟨trivial, ?_⟩
          refine ⟨trivial, ?_⟩
          obtain rfl := Option.some.inj h
          exact ⟨⟨trivial, trivial⟩, ⟨trivial, trivial, trivial⟩, rfl, rfl⟩
        · rw [if_neg (not_not_intro (none_t (not_f b15)))] at h
          refine ⟨trivial, ?_⟩
          refine ⟨trivial, ?_⟩
          refine ⟨trivial, ?_⟩
          refine ⟨trivial, ?_⟩
          refine ⟨trivial, ?_⟩
          obtain rfl := Option.some.inj h
          exact ⟨⟨trivial, trivial⟩, ⟨trivial, trivial⟩, rfl, rfl⟩
/-! halter/pipe.Open -/
def pipe_Open.f (a0 : (List Int)) (a1 : Int) (a2 : Int) (a3 : Bool) : Option ((List Int) × Int × Int × (Option Int)) :=
  (pipe_moved.f a0 a1 a2 a3 (1 : Int)).bind fun t1 =>
  some (t1.1, t1.2.1, t1.2.2.1, t1.2.2.2)
def pipe_Open.R (r : (List Int) × Int × Int × (Option Int)) : Tm := .tup [.agg [.c (.fs (.int .u8) r.1 false), .c (.sc (.int .i64 r.2.1)), .c (.sc (.int .i64 r.2.2.1))], .one (.err r.2.2.2)]
theorem pipe_Open.fun_ {a0 : (List Int)} {a1 : Int} {a2 : Int} {a3 : Bool} {r : (List Int) × Int × Int × (Option Int)} (h : pipe_Open.f a0 a1 a2 a3 = some r) : Fun cfg 6 [.agg [.c (.fs (.int .u8) a0 false), .c (.sc (.int .i64 a1)), .c (.sc (.int .i64 a2))], .one (.sc (.bool a3))] [] (pipe_Open.R r) [] := by
  unfold pipe_Open.f at h
  refine fun_of_run cfg_ok (f := 6) (fn := Tryd.f6) Tryd.func6 rfl (by kernel_rfl) (rs := [.cell 4 25, .tmp 5]) rfl (nt := 11) rfl (l := fin) (k := (.call true [] ((List Int) × Int × Int × (Option Int)) (fun t1 => pipe_moved.R t1) (fun t1 => (.adj [] (.adj [.drop 0] .nil))))) (to_goal (q := (True) ∧ (∃ t1 : (List Int) × Int × Int × (Option Int), (Fun cfg 18 [.agg [.c (.fs (.int .u8) a0 false), .c (.sc (.int .i64 a1)), .c (.sc (.int .i64 a2))], .one (.sc (.bool a3)), .one (.sc (.int .i64 (1 : Int)))] [] (pipe_moved.R t1) [] ∧ True) ∧ (True) ∧ (True ∧ (((True) ∧ True) ∧ ((True) ∧ True) ∧ (.tup [.agg [.c (.fs (.int .u8) t1.1 false), .c (.sc (.int .i64 t1.2.1)), .c (.sc (.int .i64 (p2 t1)))], .one (.err (z3 t1))] : Tm) = pipe_Open.R r ∧ ([] : List Box) = [])))) (by kernel_rfl) ?_)
  refine ⟨trivial, ?_⟩
  obtain ⟨t1, ht1, h⟩ := of_bind h
  refine ⟨t1, ⟨pipe_moved.fun_ ht1, trivial⟩, ?_⟩
  refine ⟨trivial, ?_⟩
  refine ⟨trivial, ?_⟩
  obtain rfl := Option.some.inj h
  exact ⟨⟨trivial, trivial⟩, ⟨trivial, trivial⟩, rfl, rfl⟩
/-! halter/halterref18.Open -/
def halterref18_Open.f (a0 : (List Int)) (a1 : Int) (a2 : Int) (a3 : Bool) (a4 : Int) : Option ((List Int) × Int × Int × Int) :=
  (halterref18_May.f a0 a1 a2).bind fun t1 =>
  if ¬ (t1 = true) then
    some (([] : List Int), (0 : Int), (0 : Int), (22 : Int))
  else
    if a3 = true then
      if a1 = (0 : Int) then
        (halterref18_May.f ([] : List Int) a1 (IntKind.wrap .i64 (a2 + a4))).bind fun t5 =>
        if ¬ (t5 = true) then
          some (([] : List Int), (0 : Int), (0 : Int), (22 : Int))
        else
          some (([] : List Int), a1, (IntKind.wrap .i64 (a2 + a4)), (0 : Int))
      else
        (halterref18_May.f a0 a1 (IntKind.wrap .i64 (a2 + a4))).bind fun t7 =>
        if ¬ (t7 = true) then
          some (([] : List Int), (0 : Int), (0 : Int), (22 : Int))
        else
          some (a0, a1, (IntKind.wrap .i64 (a2 + a4)), (0 : Int))
    else
      if (IntKind.wrap .i64 (a1 + a4)) = (0 : Int) then
        (halterref18_May.f ([] : List Int) (IntKind.wrap .i64 (a1 + a4)) a2).bind fun t10 =>
        if ¬ (t10 = true) then
          some (([] : List Int), (0 : Int), (0 : Int), (22 : Int))
        else
          some (([] : List Int), (IntKind.wrap .i64 (a1 + a4)), a2, (0 : Int))
      else
        (halterref18_May.f a0 (IntKind.wrap .i64 (a1 + a4)) a2).bind fun t12 =>
        if ¬ (t12 = true) then
          some (([] : List Int), (0 : Int), (0 : Int), (22 : Int))
        else
          some (a0, (IntKind.wrap .i64 (a1 + a4)), a2, (0 : Int))
def halterref18_Open.R (r : (List Int) × Int × Int × Int) : Tm := .tup [.agg [.c (.fs (.int .u8) r.1 false), .c (.sc (.int .i64 r.2.1)), .c (.sc (.int .i64 r.2.2.1))], .one (.sc (.int .i64 r.2.2.2))]
theorem halterref18_Open.fun_ {a0 : (List Int)} {a1 : Int} {a2 : Int} {a3 : Bool} {a4 : Int} {r : (List Int) × Int × Int × Int} (h : halterref18_Open.f a0 a1 a2 a3 a4 = some r) : Fun cfg 14 [.agg [.c (.fs (.int .u8) a0 false), .c (.sc (.int .i64 a1)), .c (.sc (.int .i64 a2))], .one (.sc (.bool a3)), .one (.sc (.int .i64 a4))] [] (halterref18_Open.R r) [] := by
  unfold halterref18_Open.f at h
  refine fun_of_run cfg_ok (f := 14) (fn := Tryd.f14) Tryd.func14 rfl (by kernel_rfl) (rs := [.cell 6 40, .tmp 7]) rfl (nt := 32) rfl (l := fin) (k := (.call true [] (Bool) (fun t1 => halterref18_May.R t1) (fun t1 => (.br (.adj [] (.adj [] (.adj [.co 0 true [(.int .u8)], .drop 0] .nil))) (.br (.br (.call true [(.int .u8)] (Bool) (fun t5 => halterref18_May.R t5) (fun t5 => (.br (.adj [] (.adj [] (.adj [.co 0 true [(.int .u8)], .drop 0] .nil))) (.adj [] (.adj [] (.adj [] (.adj [.co 0 true [(.int .u8)], .drop 0] .nil))))))) (.call true [] (Bool) (fun t7 => halterref18_May.R t7) (fun t7 => (.br (.adj [] (.adj [] (.adj [.co 0 true [(.int .u8)], .drop 0] .nil))) (.adj [] (.adj [] (.adj [] (.adj [.drop 0] .nil)))))))) (.br (.call true [(.int .u8)] (Bool) (fun t10 => halterref18_May.R t10) (fun t10 => (.br (.adj [] (.adj [] (.adj [.co 0 true [(.int .u8)], .drop 0] .nil))) (.adj [] (.adj [] (.adj [] (.adj [.co 0 true [(.int .u8)], .drop 0] .nil))))))) (.call true [] (Bool) (fun t12 => halterref18_May.R t12) (fun t12 => (.br (.adj [] (.adj [] (.adj [.co 0 true [(.int .u8)], .drop 0] .nil))) (.adj [] (.adj [] (.adj [] (.adj [.drop 0] .nil))))))))))))) (to_goal (q := (True) ∧ (∃ t1 : Bool, (Fun cfg 17 [.agg [.c (.fs (.int .u8) a0 false), .c (.sc (.int .i64 a1)), .c (.sc (.int .i64 a2))]] [] (halterref18_May.R t1) [] ∧ True) ∧ (((!t1) = true → (True ∧ (True) ∧ (True ∧ (((True) ∧ True) ∧ ((True) ∧ (True) ∧ True) ∧ (.tup [.agg [.c (.fs (.int .u8) ([] : List Int) false), .c (.sc (.int .i64 (0 : Int))), .c (.sc (.int .i64 (0 : Int)))], .one (.sc (.int .i64 (22 : Int)))] : Tm) = halterref18_Open.R r ∧ ([] : List Box) = [])))) ∧ ((!t1) = false → ((a3 = true → (True) ∧ (True) ∧ (True) ∧ (True) ∧ (True) ∧ (((a1 == (0 : Int)) = true → (True) ∧ (True) ∧ (∃ t5 : Bool, (Fun cfg 17 [.agg [.c (.fs (.int .u8) ([] : List Int) false), .c (.sc (.int .i64 a1)), .c (.sc (.int .i64 (IntKind.wrap .i64 (a2 + a4))))]] [] (halterref18_May.R t5) [] ∧ True) ∧ (((!t5) = true → (True ∧ (True) ∧ (True ∧ (((True) ∧ True) ∧ ((True) ∧ (True) ∧ True) ∧ (.tup [.agg [.c (.fs (.int .u8) ([] : List Int) false), .c (.sc (.int .i64 (0 : Int))), .c (.sc (.int .i64 (0 : Int)))], .one (.sc (.int .i64 (22 : Int)))] : Tm) = halterref18_Open.R r ∧ ([] : List Box) = [])))) ∧ ((!t5) = false → (True ∧ (True ∧ (True) ∧ (True) ∧ (True ∧ (((True) ∧ True) ∧ ((True) ∧ (True) ∧ True) ∧ (.tup [.agg [.c (.fs (.int .u8) ([] : List Int) false), .c (.sc (.int .i64 a1)), .c (.sc (.int .i64 (IntKind.wrap .i64 (a2 + a4))))], .one (.sc (.int .i64 (0 : Int)))] : Tm) = halterref18_Open.R r ∧ ([] : List Box) = [])))))))) ∧ ((a1 == (0 : Int)) = false → (True) ∧ (∃ t7 : Bool, (Fun cfg 17 [.agg [.c (.fs (.int .u8) a0 false), .c (.sc (.int .i64 a1)), .c (.sc (.int .i64 (IntKind.wrap .i64 (a2 + a4))))]] [] (halterref18_May.R t7) [] ∧ True) ∧ (((!t7) = true → (True ∧ (True) ∧ (True ∧ (((True) ∧ True) ∧ ((True) ∧ (True) ∧ True) ∧ (.tup [.agg [.c (.fs (.int .u8) ([] : List Int) false), .c (.sc (.int .i64 (0 : Int))), .c (.sc (.int .i64 (0 : Int)))], .one (.sc (.int .i64 (22 : Int)))] : Tm) = halterref18_Open.R r ∧ ([] : List Box) = [])))) ∧ ((!t7) = false → (True ∧ (True ∧ (True) ∧ (True) ∧ (True ∧ (((True) ∧ True) ∧ ((True) ∧ True) ∧ (.tup [.agg [.c (.fs (.int .u8) a0 false), .c (.sc (.int .i64 a1)), .c (.sc (.int .i64 (IntKind.wrap .i64 (a2 + a4))))], .one (.sc (.int .i64 (0 : Int)))] : Tm) = halterref18_Open.R r ∧ ([] : List Box) = [])))))))))) ∧ (a3 = false → (True) ∧ (True) ∧ (True) ∧ (True) ∧ (True) ∧ ((((IntKind.wrap .i64 (a1 + a4)) == (0 : Int)) = true → (True) ∧ (True) ∧ (∃ t10 : Bool, (Fun cfg 17 [.agg [.c (.fs (.int .u8) ([] : List Int) false), .c (.sc (.int .i64 (IntKind.wrap .i64 (a1 + a4)))), .c (.sc (.int .i64 a2))]] [] (halterref18_May.R t10) [] ∧ True) ∧ (((!t10) = true → (True ∧ (True) ∧ (True ∧ (((True) ∧ True) ∧ ((True) ∧ (True) ∧ True) ∧ (.tup [.agg [.c (.fs (.int .u8) ([] : List Int) false), .c (.sc (.int .i64 (0 : Int))), .c (.sc (.int .i64 (0 : Int)))], .one (.sc (.int .i64 (22 : Int)))] : Tm) = halterref18_Open.R r ∧ ([] : List Box) = [])))) ∧ ((!t10) = false → (True ∧ (True ∧ (True) ∧ (True) ∧ (True ∧ (((True) ∧ True) ∧ ((True) ∧ (True) ∧ True) ∧ (.tup [.agg [.c (.fs (.int .u8) ([] : List Int) false), .c (.sc (.int .i64 (IntKind.wrap .i64 (a1 + a4)))), .c (.sc (.int .i64 a2))], .one (.sc (.int .i64 (0 : Int)))] : Tm) = halterref18_Open.R r ∧ ([] : List Box) = [])))))))) ∧ (((IntKind.wrap .i64 (a1 + a4)) == (0 : Int)) = false → (True) ∧ (∃ t12 : Bool, (Fun cfg 17 [.agg [.c (.fs (.int .u8) a0 false), .c (.sc (.int .i64 (IntKind.wrap .i64 (a1 + a4)))), .c (.sc (.int .i64 a2))]] [] (halterref18_May.R t12) [] ∧ True) ∧ (((!t12) = true → (True ∧ (True) ∧ (True ∧ (((True) ∧ True) ∧ ((True) ∧ (True) ∧ True) ∧ (.tup [.agg [.c (.fs (.int .u8) ([] : List Int) false), .c (.sc (.int .i64 (0 : Int))), .c (.sc (.int .i64 (0 : Int)))], .one (.sc (.int .i64 (22 : Int)))] : Tm) = halterref18_Open.R r ∧ ([] : List Box) = [])))) ∧ ((!t12) = false → (True ∧ (True ∧ (True) ∧ (True) ∧ (True ∧ (((True) ∧ True) ∧ ((True) ∧ True) ∧ (.tup [.agg [.c (.fs (.int .u8) a0 false), .c (.sc (.int .i64 (IntKind.wrap .i64 (a1 + a4)))), .c (.sc (.int .i64 a2))], .one (.sc (.int .i64 (0 : Int)))] : Tm) = halterref18_Open.R r ∧ ([] : List Box) = []))))))))))))))) (by kernel_rfl) ?_)
  refine ⟨trivial, ?_⟩
  obtain ⟨t1, ht1, h⟩ := of_bind h
  refine ⟨t1, ⟨halterref18_May.fun_ ht1, trivial⟩, ?_⟩
  refine ⟨fun b2 => ?_, fun b2 => ?_⟩
  · rw [if_pos (ff (not_t b2))] at h
    refine ⟨trivial, ?_⟩
    refine ⟨trivial, ?_⟩
    refine ⟨trivial, ?_⟩
    obtain rfl := Option.some.inj h
    exact ⟨⟨trivial, trivial⟩, ⟨trivial, trivial, trivial⟩, rfl, rfl⟩
  · rw [if_neg (not_not_intro (not_f b2))] at h
    refine ⟨fun b3 => ?_, fun b3 => ?_⟩
    · rw [if_pos b3] at h
      refine ⟨trivial, ?_⟩
      refine ⟨trivial, ?_⟩
      refine ⟨trivial, ?_⟩
      refine ⟨trivial, ?_⟩
      refine ⟨trivial, ?_⟩
      refine ⟨fun b4 => ?_, fun b4 => ?_⟩
      · rw [if_pos (beq_t b4)] at h
        refine ⟨trivial, ?_⟩
        refine ⟨trivial, ?_⟩
        obtain ⟨t5, ht5, h⟩ := of_bind h
        refine ⟨t5, ⟨halterref18_May.fun_ ht5, trivial⟩, ?_⟩
        refine ⟨fun b6 => ?_, fun b6 => ?_⟩
        · rw [if_pos (ff (not_t b6))] at h
          refine ⟨trivial, ?_⟩
          refine ⟨trivial, ?_⟩
          refine ⟨trivial, ?_⟩
          obtain rfl := Option.some.inj h
          exact ⟨⟨trivial, trivial⟩, ⟨trivial, trivial, trivial⟩, rfl, rfl⟩
        · rw [if_neg (not_not_intro (not_f b6))] at h
          refine ⟨trivial, ?_⟩
          refine ⟨trivial, ?_⟩
          refine ⟨trivial, ?_⟩
          refine ⟨trivial, ?_⟩
          refine ⟨trivial, ?_⟩
          obtain rfl := Option.some.inj h
          exact ⟨⟨trivial, trivial⟩, ⟨trivial, trivial, trivial⟩, rfl, rfl⟩
      · rw [if_neg (beq_f b4)] at h
        refine ⟨trivial, ?_⟩
        obtain ⟨t7, ht7, h⟩ := of_bind h
        refine ⟨t7, ⟨halterref18_May.fun_ ht7, trivial⟩, ?_⟩
        refine ⟨fun b8 => ?_, fun b8 => ?_⟩
        · rw [if_pos (ff (not_t b8))] at h
          refine ⟨trivial, ?_⟩
          refine ⟨trivial, ?_⟩
          refine ⟨trivial, ?_⟩
          obtain rfl := Option.some.inj h
          exact ⟨⟨trivial, trivial⟩, ⟨trivial, trivial, trivial⟩, rfl, rfl⟩
        · rw [if_neg (not_not_intro (not_f b8))] at h
          refine ⟨trivial, ?_⟩
          refine ⟨trivial, ?_⟩
          refine ⟨trivial, ?_⟩
          refine ⟨trivial, ?_⟩
          refine ⟨trivial, ?_⟩
          obtain rfl := Option.some.inj h
          exact ⟨⟨trivial, trivial⟩, ⟨trivial, trivial⟩, rfl, rfl⟩
    · rw [if_neg (ff b3)] at h
      refine ⟨trivial, ?_⟩
      refine ⟨trivial, ?_⟩
      refine ⟨trivial, ?_⟩
      refine ⟨trivial, ?_⟩
      refine ⟨trivial, ?_⟩
      refine ⟨fun b9 => ?_, fun b9 => ?_⟩
      · rw [if_pos (beq_t b9)] at h
        refine ⟨trivial, ?_⟩
        refine ⟨trivial, ?_⟩
        obtain ⟨t10, ht10, h⟩ := of_bind h
        refine ⟨t10, ⟨halterref18_May.fun_ ht10, trivial⟩, ?_⟩
        refine ⟨fun b11 => ?_, fun b11 => ?_⟩
        · rw [if_pos (ff (not_t b11))] at h
          refine ⟨trivial, ?_⟩
          refine ⟨trivial, ?_⟩
          refine ⟨trivial, ?_⟩
          obtain rfl := Option.some.inj h
          exact ⟨⟨trivial, trivial⟩, ⟨trivial, trivial, trivial⟩, rfl, rfl⟩
        · rw [if_neg (not_not_intro (not_f b11))] at h
          refine ⟨trivial, ?_⟩
          refine ⟨trivial, ?_⟩
          refine ⟨trivial, ?_⟩
          refine ⟨trivial, ?_⟩
          refine ⟨trivial, ?_⟩
          obtain rfl := Option.some.inj h
          exact ⟨⟨trivial, trivial⟩, ⟨trivial, trivial, trivial⟩, rfl, rfl⟩
      · rw [if_neg (beq_f b9)] at h
        refine ⟨trivial, ?_⟩
        obtain ⟨t12, ht12, h⟩ := of_bind h
        refine ⟨t12, ⟨halterref18_May.fun_ ht12, trivial⟩, ?_⟩
        refine ⟨fun b13 => ?_, fun b13 => ?_⟩
        · rw [if_pos (ff (not_t b13))] at h
          refine ⟨trivial, ?_⟩
          refine ⟨trivial, ?_⟩
          refine ⟨trivial, ?_⟩
          obtain rfl := Option.some.inj h
          exact ⟨⟨trivial, trivial⟩, ⟨trivial, trivial, trivial⟩, rfl, rfl⟩
        · rw [if_neg (not_not_intro (not_f b13))] at h
          refine ⟨trivial, ?_⟩
          refine ⟨trivial, ?_⟩
          refine ⟨trivial, ?_⟩
          refine ⟨trivial, ?_⟩
          refine ⟨trivial, ?_⟩
          obtain rfl := Option.some.inj h
          exact ⟨⟨trivial, trivial⟩, ⟨trivial, trivial⟩, rfl, rfl⟩
/-! halter/pipe.Close -/
def pipe_Close.f (a0 : (List Int)) (a1 : Int) (a2 : Int) (a3 : Bool) : Option ((List Int) × Int × Int × (Option Int)) :=
  (pipe_moved.f a0 a1 a2 a3 (-1 : Int)).bind fun t1 =>
  some (t1.1, t1.2.1, t1.2.2.1, t1.2.2.2)
def pipe_Close.R (r : (List Int) × Int × Int × (Option Int)) : Tm := .tup [.agg [.c (.fs (.int .u8) r.1 false), .c (.sc (.int .i64 r.2.1)), .c (.sc (.int .i64 r.2.2.1))], .one (.err r.2.2.2)]
theorem pipe_Close.fun_ {a0 : (List Int)} {a1 : Int} {a2 : Int} {a3 : Bool} {r : (List Int) × Int × Int × (Option Int)} (h : pipe_Close.f a0 a1 a2 a3 = some r) : Fun cfg 15 [.agg [.c (.fs (.int .u8) a0 false), .c (.sc (.int .i64 a1)), .c (.sc (.int .i64 a2))], .one (.sc (.bool a3))] [] (pipe_Close.R r) [] := by
  unfold pipe_Close.f at h
  refine fun_of_run cfg_ok (f := 15) (fn := Tryd.f15) Tryd.func15 rfl (by kernel_rfl) (rs := [.cell 4 25, .tmp 5]) rfl (nt := 11) rfl (l := fin) (k := (.call true [] ((List Int) × Int × Int × (Option Int)) (fun t1 => pipe_moved.R t1) (fun t1 => (.adj [] (.adj [.drop 0] .nil))))) (to_goal (q := (True) ∧ (∃ t1 : (List Int) × Int × Int × (Option Int), (Fun cfg 18 [.agg [.c (.fs (.int .u8) a0 false), .c (.sc (.int .i64 a1)), .c (.sc (.int .i64 a2))], .one (.sc (.bool a3)), .one (.sc (.int .i64 (-1 : Int)))] [] (pipe_moved.R t1) [] ∧ True) ∧ (True) ∧ (True ∧ (((True) ∧ True) ∧ ((True) ∧ True) ∧ (.tup [.agg [.c (.fs (.int .u8) t1.1 false), .c (.sc (.int .i64 t1.2.1)), .c (.sc (.int .i64 (p2 t1)))], .one (.err (z3 t1))] : Tm) = pipe_Close.R r ∧ ([] : List Box) = [])))) (by kernel_rfl) ?_)
  refine ⟨trivial, ?_⟩
  obtain ⟨t1, ht1, h⟩ := of_bind h
  refine ⟨t1, ⟨pipe_moved.fun_ ht1, trivial⟩, ?_⟩
  refine ⟨trivial, ?_⟩
  refine ⟨trivial, ?_⟩
  obtain rfl := Option.some.inj h
  exact ⟨⟨trivial, trivial⟩, ⟨trivial, trivial⟩, rfl, rfl⟩
/-! halter/halterlaw18.PipeSteps -/
def halterlaw18_PipeSteps.l0 (t5 : TY0) (t6 : (List Int) × (List Int) × Int × Int × Int) (t7 : TY1) (t8 : Int × (List Int) × Int × Int × Int) (a0 : (List Int)) (a1 : Int) (a2 : Int) : Nat → Int → Option ((Unit) ⊕ (Unit))
  | 0, _ => none
  | n + 1, x19 =>
    if x19 < (2 : Int) then
      (pipe_Open.f a0 a1 a2 (x19 == (1 : Int))).bind fun t35 =>
      (halterref18_Open.f a0 a1 a2 (x19 == (1 : Int)) (1 : Int)).bind fun t36 =>
      (pipe_Close.f a0 a1 a2 (x19 == (1 : Int))).bind fun t37 =>
      (halterref18_Open.f a0 a1 a2 (x19 == (1 : Int)) (-1 : Int)).bind fun t38 =>
      (halterlaw18_same.f t35.1 t35.2.1 t35.2.2.1 t36.1 t36.2.1 t36.2.2.1).bind fun t39 =>
      if ¬ (t39 = true) then
        some (.inr ())
      else
        (num.f t35.2.2.2).bind fun t41 =>
        if ¬ t41 = t36.2.2.2 then
          some (.inr ())
        else
          (halterlaw18_same.f t37.1 t37.2.1 t37.2.2.1 t38.1 t38.2.1 t38.2.2.1).bind fun t43 =>
          if ¬ (t43 = true) then
            some (.inr ())
          else
            (num.f t37.2.2.2).bind fun t45 =>
            if ¬ t45 = t38.2.2.2 then
              some (.inr ())
            else
              halterlaw18_PipeSteps.l0 t5 t6 t7 t8 a0 a1 a2 n (IntKind.wrap .i64 (x19 + (1 : Int)))
    else
      some (.inl ())
def halterlaw18_PipeSteps.l0_S (t5 : TY0) (t6 : (List Int) × (List Int) × Int × Int × Int) (t7 : TY1) (t8 : Int × (List Int) × Int × Int × Int) (a0 : (List Int)) (a1 : Int) (a2 : Int) (x19 : Int) : St := ⟨[.any, .any, .any, .v (.one (.ptr 0 ⟨0, 0, 0, 0⟩)), .any, .any, .any, .v (.one (.ptr 1 ⟨0, 0, 0, 0⟩)), .any, .any, .any, .any, .any, .any, .any, .any, .any, .any, .any, .any, .v (.one (.sc (.int .i64 x19))), .any, .any, .any, .any, .any, .any, .any, .any, .any, .any, .any, .any, .any, .any, .any, .any, .any, .any, .any, .any, .any, .any, .any, .any, .any, .any, .any, .any, .any, .any, .any, .any, .any, .any, .any, .any, .any, .any, .any, .any, .any, .any, .any, .any, .any, .any, .any, .any, .any, .any, .any, .any, .any, .any, .any, .any, .any, .any, .any, .any, .any, .any, .any, .any, .any, .any, .any, .any, .any, .any, .any, .any, .any, .any, .any, .any, .any, .any, .any, .any, .any, .any, .any, .any, .any, .any, .any, .any, .any, .any, .any, .any, .any, .any, .any, .any, .any, .any, .any, .any, .any, .any, .any, .any, .any, .any, .any, .any, .any, .any, .any, .any, .any, .any, .any, .any, .any, .any, .any, .any, .any, .any, .any, .any, .any, .any, .any, .any, .any, .any, .any, .any, .any, .any, .any, .any, .any, .any, .any, .any, .any, .any, .any, .any, .any, .any, .any, .any, .any], [.ex false [.c (.fs (.int .u8) a0 false), .c (.sc (.int .i64 a1)), .c (.sc (.int .i64 a2))] 40, .ex false [.c (.fs (.int .u8) a0 false), .c (.sc (.int .i64 a1)), .c (.sc (.int .i64 a2))] 25, .ex false [.c (.fs (.int .u8) t5.2.1 false), .c (.sc (.int .i64 t5.2.2.1)), .c (.sc (.int .i64 t5.2.2.2.1))] 25, .ex false [.c (.fs (.int .u8) t6.2.1 false), .c (.sc (.int .i64 t6.2.2.1)), .c (.sc (.int .i64 t6.2.2.2.1))] 40, .ex false [.c (.fs (.int .u8) t7.2.1 false), .c (.sc (.int .i64 t7.2.2.1)), .c (.sc (.int .i64 t7.2.2.2.1))] 25, .ex false [.c (.fs (.int .u8) t8.2.1 false), .c (.sc (.int .i64 t8.2.2.1)), .c (.sc (.int .i64 t8.2.2.2.1))] 40], 0⟩
def halterlaw18_PipeSteps.l0_Q (t5 : TY0) (t6 : (List Int) × (List Int) × Int × Int × Int) (t7 : TY1) (t8 : Int × (List Int) × Int × Int × Int) (a0 : (List Int)) (a1 : Int) (a2 : Int) : (Unit) ⊕ (Unit) → Exit → St → Prop
  | .inl t => fun e s => e = (.exit 0) ∧ s = ⟨[.any, .any, .any, .v (.one (.ptr 0 ⟨0, 0, 0, 0⟩)), .any, .any, .any, .v (.one (.ptr 1 ⟨0, 0, 0, 0⟩)), .any, .any, .any, .any, .any, .any, .any, .any, .any, .any, .any, .any, .any, .any, .any, .any, .any, .any, .any, .any, .any, .any, .any, .any, .any, .any, .any, .any, .any, .any, .any, .any, .any, .any, .any, .any, .any, .any, .any, .any, .any, .any, .any, .any, .any, .any, .any, .any, .any, .any, .any, .any, .any, .any, .any, .any, .any, .any, .any, .any, .any, .any, .any, .any, .any, .any, .any, .any, .any, .any, .any, .any, .any, .any, .any, .any, .any, .any, .any, .any, .any, .any, .any, .any, .any, .any, .any, .any, .any, .any, .any, .any, .any, .any, .any, .any, .any, .any, .any, .any, .any, .any, .any, .any, .any, .any, .any, .any, .any, .any, .any, .any, .any, .any, .any, .any, .any, .any, .any, .any, .any, .any, .any, .any, .any, .any, .any, .any, .any, .any, .any, .any, .any, .any, .any, .any, .any, .any, .any, .any, .any, .any, .any, .any, .any, .any, .any, .any, .any, .any, .any, .any, .any, .any, .any, .any, .any, .any, .any, .any, .any, .any], [.ex false [.c (.fs (.int .u8) a0 false), .c (.sc (.int .i64 a1)), .c (.sc (.int .i64 a2))] 40, .ex false [.c (.fs (.int .u8) a0 false), .c (.sc (.int .i64 a1)), .c (.sc (.int .i64 a2))] 25, .ex false [.c (.fs (.int .u8) t5.2.1 false), .c (.sc (.int .i64 t5.2.2.1)), .c (.sc (.int .i64 t5.2.2.2.1))] 25, .ex false [.c (.fs (.int .u8) t6.2.1 false), .c (.sc (.int .i64 t6.2.2.1)), .c (.sc (.int .i64 t6.2.2.2.1))] 40, .ex false [.c (.fs (.int .u8) t7.2.1 false), .c (.sc (.int .i64 t7.2.2.1)), .c (.sc (.int .i64 t7.2.2.2.1))] 25, .ex false [.c (.fs (.int .u8) t8.2.1 false), .c (.sc (.int .i64 t8.2.2.1)), .c (.sc (.int .i64 t8.2.2.2.1))] 40], 0⟩
  | .inr t => fun e s => e = .ret ∧ s = ⟨[.any, .any, .any, .any, .any, .any, .v (.one (.sc (.bool false))), .any, .any, .any, .any, .any, .any, .any, .any, .any, .any, .any, .any, .any, .any, .any, .any, .any, .any, .any, .any, .any, .any, .any, .any, .any, .any, .any, .any, .any, .any, .any, .any, .any, .any, .any, .any, .any, .any, .any, .any, .any, .any, .any, .any, .any, .any, .any, .any, .any, .any, .any, .any, .any, .any, .any, .any, .any, .any, .any, .any, .any, .any, .any, .any, .any, .any, .any, .any, .any, .any, .any, .any, .any, .any, .any, .any, .any, .any, .any, .any, .any, .any, .any, .any, .any, .any, .any, .any, .any, .any, .any, .any, .any, .any, .any, .any, .any, .any, .any, .any, .any, .any, .any, .any, .any, .any, .any, .any, .any, .any, .any, .any, .any, .any, .any, .any, .any, .any, .any, .any, .any, .any, .any, .any, .any, .any, .any, .any, .any, .any, .any, .any, .any, .any, .any, .any, .any, .any, .any, .any, .any, .any, .any, .any, .any, .any, .any, .any, .any, .any, .any, .any, .any, .any, .any, .any, .any, .any, .any, .any, .any, .any, .any], [.ex false [.c (.fs (.int .u8) a0 false), .c (.sc (.int .i64 a1)), .c (.sc (.int .i64 a2))] 40, .ex false [.c (.fs (.int .u8) a0 false), .c (.sc (.int .i64 a1)), .c (.sc (.int .i64 a2))] 25, .ex false [.c (.fs (.int .u8) t5.2.1 false), .c (.sc (.int .i64 t5.2.2.1)), .c (.sc (.int .i64 t5.2.2.2.1))] 25, .ex false [.c (.fs (.int .u8) t6.2.1 false), .c (.sc (.int .i64 t6.2.2.1)), .c (.sc (.int .i64 t6.2.2.2.1))] 40, .ex false [.c (.fs (.int .u8) t7.2.1 false), .c (.sc (.int .i64 t7.2.2.1)), .c (.sc (.int .i64 t7.2.2.2.1))] 25, .ex false [.c (.fs (.int .u8) t8.2.1 false), .c (.sc (.int .i64 t8.2.2.1)), .c (.sc (.int .i64 t8.2.2.2.1))] 40], 0⟩
theorem halterlaw18_PipeSteps.l0_ok (t5 : TY0) (t6 : (List Int) × (List Int) × Int × Int × Int) (t7 : TY1) (t8 : Int × (List Int) × Int × Int × Int) (a0 : (List Int)) (a1 : Int) (a2 : Int) : ∀ (n : Nat) (x19 : Int) (r : (Unit) ⊕ (Unit)), halterlaw18_PipeSteps.l0 t5 t6 t7 t8 a0 a1 a2 n x19 = some r → TripN cfg (cpath (Tryd.f4.body.getD .skip) [1, 1, 1, 1, 1, 1, 1, 1, 0, 1, 0, 0]) n (halterlaw18_PipeSteps.l0_S t5 t6 t7 t8 a0 a1 a2 x19) (halterlaw18_PipeSteps.l0_Q t5 t6 t7 t8 a0 a1 a2 r) := by
  intro n
  induction n with
  | zero => intro x19 r h; cases h
  | succ n ih =>
    intro x19 r h
    rw [halterlaw18_PipeSteps.l0] at h
    refine TripN.of_run cfg_ok (k := (.br (.call true [] ((List Int) × Int × Int × (Option Int)) (fun t35 => pipe_Open.R t35) (fun t35 => (.call true [] ((List Int) × Int × Int × Int) (fun t36 => halterref18_Open.R t36) (fun t36 => (.call true [] ((List Int) × Int × Int × (Option Int)) (fun t37 => pipe_Close.R t37) (fun t37 => (.call true [] ((List Int) × Int × Int × Int) (fun t38 => halterref18_Open.R t38) (fun t38 => (.call true [] (Bool) (fun t39 => halterlaw18_same.R t39) (fun t39 => (.br (.one true (.one true (.one true (.one true (.one true (.one true (.one true (.one true (.one true (.one true (.one true (.one true (.one true (.one true (.one true (.adj [] (.adj [.keep [6], .drop 6] .nil))))))))))))))))) (.one false (.call true [] (Int) (fun t41 => num.R t41) (fun t41 => (.one false (.one false (.one false (.br (.one true (.one true (.one true (.one true (.one true (.one true (.one true (.one true (.one true (.one true (.adj [] (.adj [.keep [6], .drop 6] .nil)))))))))))) (.one false (.one false (.call true [] (Bool) (fun t43 => halterlaw18_same.R t43) (fun t43 => (.one false (.one false (.br (.one true (.one true (.one true (.one true (.one true (.adj [] (.adj [.keep [6], .drop 6] .nil))))))) (.one false (.call true [] (Int) (fun t45 => num.R t45) (fun t45 => (.one false (.one false (.one false (.br (.adj [] (.adj [.keep [6], .drop 6] .nil)) (.adj [] (.adj [] (.adj [.keep [3, 7, 20], .drop 6] .nil))))))))))))))))))))))))))))))))))) (.adj [.keep [3, 7], .drop 6] .nil))) (to_goal (q := (True) ∧ (((decide (x19 < (2 : Int))) = true → (True) ∧ (True) ∧ (∃ t35 : (List Int) × Int × Int × (Option Int), (Fun cfg 6 [.agg [.c (.fs (.int .u8) a0 false), .c (.sc (.int .i64 a1)), .c (.sc (.int .i64 a2))], .one (.sc (.bool (x19 == (1 : Int))))] [] (pipe_Open.R t35) [] ∧ True) ∧ (True) ∧ (True) ∧ (True) ∧ (∃ t36 : (List Int) × Int × Int × Int, (Fun cfg 14 [.agg [.c (.fs (.int .u8) a0 false), .c (.sc (.int .i64 a1)), .c (.sc (.int .i64 a2))], .one (.sc (.bool (x19 == (1 : Int)))), .one (.sc (.int .i64 (1 : Int)))] [] (halterref18_Open.R t36) [] ∧ True) ∧ (True) ∧ (True) ∧ (True) ∧ (∃ t37 : (List Int) × Int × Int × (Option Int), (Fun cfg 15 [.agg [.c (.fs (.int .u8) a0 false), .c (.sc (.int .i64 a1)), .c (.sc (.int .i64 a2))], .one (.sc (.bool (x19 == (1 : Int))))] [] (pipe_Close.R t37) [] ∧ True) ∧ (True) ∧ (True) ∧ (True) ∧ (∃ t38 : (List Int) × Int × Int × Int, (Fun cfg 14 [.agg [.c (.fs (.int .u8) a0 false), .c (.sc (.int .i64 a1)), .c (.sc (.int .i64 a2))], .one (.sc (.bool (x19 == (1 : Int)))), .one (.sc (.int .i64 (-1 : Int)))] [] (halterref18_Open.R t38) [] ∧ True) ∧ (True) ∧ (True) ∧ (True) ∧ (∃ t39 : Bool, (Fun cfg 13 [.agg [.c (.fs (.int .u8) t35.1 false), .c (.sc (.int .i64 t35.2.1)), .c (.sc (.int .i64 (p2 t35)))], .agg [.c (.fs (.int .u8) t36.1 false), .c (.sc (.int .i64 t36.2.1)), .c (.sc (.int .i64 (p2 t36)))]] [] (halterlaw18_same.R t39) [] ∧ True) ∧ (((!t39) = false → ((!t39) = false ∧ (∃ t41 : Int, (Fun cfg 8 [.one (.err (z3 t35))] [] (num.R t41) [] ∧ True) ∧ ((!t39) = false ∧ ((!t39) = false ∧ (True) ∧ ((!t39) = false ∧ (((t41 != (z3 t36)) = false → (True) ∧ ((t41 != (z3 t36)) = false ∧ (True) ∧ ((t41 != (z3 t36)) = false ∧ (∃ t43 : Bool, (Fun cfg 13 [.agg [.c (.fs (.int .u8) t37.1 false), .c (.sc (.int .i64 t37.2.1)), .c (.sc (.int .i64 (p2 t37)))], .agg [.c (.fs (.int .u8) t38.1 false), .c (.sc (.int .i64 t38.2.1)), .c (.sc (.int .i64 (p2 t38)))]] [] (halterlaw18_same.R t43) [] ∧ True) ∧ ((t41 != (z3 t36)) = false ∧ ((t41 != (z3 t36)) = false ∧ (((!t43) = false → ((!t43) = false ∧ (∃ t45 : Int, (Fun cfg 8 [.one (.err (z3 t37))] [] (num.R t45) [] ∧ True) ∧ ((!t43) = false ∧ ((!t43) = false ∧ (True) ∧ ((!t43) = false ∧ (((t45 != (z3 t38)) = true → (True ∧ (((True) ∧ (True) ∧ True) ∧ halterlaw18_PipeSteps.l0_Q t5 t6 t7 t8 a0 a1 a2 r .ret ⟨[.any, .any, .any, .any, .any, .any, .v (.one (.sc (.bool false))), .any, .any, .any, .any, .any, .any, .any, .any, .any, .any, .any, .any, .any, .any, .any, .any, .any, .any, .any, .any, .any, .any, .any, .any, .any, .any, .any, .any, .any, .any, .any, .any, .any, .any, .any, .any, .any, .any, .any, .any, .any, .any, .any, .any, .any, .any, .any, .any, .any, .any, .any, .any, .any, .any, .any, .any, .any, .any, .any, .any, .any, .any, .any, .any, .any, .any, .any, .any, .any, .any, .any, .any, .any, .any, .any, .any, .any, .any, .any, .any, .any, .any, .any, .any, .any, .any, .any, .any, .any, .any, .any, .any, .any, .any, .any, .any, .any, .any, .any, .any, .any, .any, .any, .any, .any, .any, .any, .any, .any, .any, .any, .any, .any, .any, .any, .any, .any, .any, .any, .any, .any, .any, .any, .any, .any, .any, .any, .any, .any, .any, .any, .any, .any, .any, .any, .any, .any, .any, .any, .any, .any, .any, .any, .any, .any, .any, .any, .any, .any, .any, .any, .any, .any, .any, .any, .any, .any, .any, .any, .any, .any, .any, .any], [.ex false [.c (.fs (.int .u8) a0 false), .c (.sc (.int .i64 a1)), .c (.sc (.int .i64 a2))] 40, .ex false [.c (.fs (.int .u8) a0 false), .c (.sc (.int .i64 a1)), .c (.sc (.int .i64 a2))] 25, .ex false [.c (.fs (.int .u8) t5.2.1 false), .c (.sc (.int .i64 (p2 t5))), .c (.sc (.int .i64 (p3 t5)))] 25, .ex false [.c (.fs (.int .u8) t6.2.1 false), .c (.sc (.int .i64 (p2 t6))), .c (.sc (.int .i64 (p3 t6)))] 40, .ex false [.c (.fs (.int .u8) t7.2.1 false), .c (.sc (.int .i64 (p2 t7))), .c (.sc (.int .i64 (p3 t7)))] 25, .ex false [.c (.fs (.int .u8) t8.2.1 false), .c (.sc (.int .i64 (p2 t8))), .c (.sc (.int .i64 (p3 t8)))] 40], 0⟩))) ∧ ((t45 != (z3 t38)) = false → (True ∧ (True ∧ (True) ∧ (((True) ∧ (True) ∧ True) ∧ TripN cfg (cpath (Tryd.f4.body.getD .skip) [1, 1, 1, 1, 1, 1, 1, 1, 0, 1, 0, 0]) n (halterlaw18_PipeSteps.l0_S t5 t6 t7 t8 a0 a1 a2 (IntKind.wrap .i64 (x19 + (1 : Int)))) (halterlaw18_PipeSteps.l0_Q t5 t6 t7 t8 a0 a1 a2 r)))))))))))) ∧ ((!t43) = true → ((!t43) = true ∧ ((!t43) = true ∧ ((!t43) = true ∧ ((!t43) = true ∧ (true = true ∧ (True ∧ (((True) ∧ (True) ∧ True) ∧ halterlaw18_PipeSteps.l0_Q t5 t6 t7 t8 a0 a1 a2 r .ret ⟨[.any, .any, .any, .any, .any, .any, .v (.one (.sc (.bool false))), .any, .any, .any, .any, .any, .any, .any, .any, .any, .any, .any, .any, .any, .any, .any, .any, .any, .any, .any, .any, .any, .any, .any, .any, .any, .any, .any, .any, .any, .any, .any, .any, .any, .any, .any, .any, .any, .any, .any, .any, .any, .any, .any, .any, .any, .any, .any, .any, .any, .any, .any, .any, .any, .any, .any, .any, .any, .any, .any, .any, .any, .any, .any, .any, .any, .any, .any, .any, .any, .any, .any, .any, .any, .any, .any, .any, .any, .any, .any, .any, .any, .any, .any, .any, .any, .any, .any, .any, .any, .any, .any, .any, .any, .any, .any, .any, .any, .any, .any, .any, .any, .any, .any, .any, .any, .any, .any, .any, .any, .any, .any, .any, .any, .any, .any, .any, .any, .any, .any, .any, .any, .any, .any, .any, .any, .any, .any, .any, .any, .any, .any, .any, .any, .any, .any, .any, .any, .any, .any, .any, .any, .any, .any, .any, .any, .any, .any, .any, .any, .any, .any, .any, .any, .any, .any, .any, .any, .any, .any, .any, .any, .any, .any], [.ex false [.c (.fs (.int .u8) a0 false), .c (.sc (.int .i64 a1)), .c (.sc (.int .i64 a2))] 40, .ex false [.c (.fs (.int .u8) a0 false), .c (.sc (.int .i64 a1)), .c (.sc (.int .i64 a2))] 25, .ex false [.c (.fs (.int .u8) t5.2.1 false), .c (.sc (.int .i64 (p2 t5))), .c (.sc (.int .i64 (p3 t5)))] 25, .ex false [.c (.fs (.int .u8) t6.2.1 false), .c (.sc (.int .i64 (p2 t6))), .c (.sc (.int .i64 (p3 t6)))] 40, .ex false [.c (.fs (.int .u8) t7.2.1 false), .c (.sc (.int .i64 (p2 t7))), .c (.sc (.int .i64 (p3 t7)))] 25, .ex false [.c (.fs (.int .u8) t8.2.1 false), .c (.sc (.int .i64 (p2 t8))), .c (.sc (.int .i64 (p3 t8)))] 40], 0⟩))))))))))))))) ∧ ((t41 != (z3 t36)) = true → ((t41 != (z3 t36)) = true ∧ ((t41 != (z3 t36)) = true ∧ ((t41 != (z3 t36)) = true ∧ ((t41 != (z3 t36)) = true ∧ (true = true ∧ (true = true ∧ (true = true ∧ (true = true ∧ (true = true ∧ (true = true ∧ (True ∧ (((True) ∧ (True) ∧ True) ∧ halterlaw18_PipeSteps.l0_Q t5 t6 t7 t8 a0 a1 a2 r .ret ⟨[.any, .any, .any, .any, .any, .any, .v (.one (.sc (.bool false))), .any, .any, .any, .any, .any, .any, .any, .any, .any, .any, .any, .any, .any, .any, .any, .any, .any, .any, .any, .any, .any, .any, .any, .any, .any, .any, .any, .any, .any, .any, .any, .any, .any, .any, .any, .any, .any, .any, .any, .any, .any, .any, .any, .any, .any, .any, .any, .any, .any, .any, .any, .any, .any, .any, .any, .any, .any, .any, .any, .any, .any, .any, .any, .any, .any, .any, .any, .any, .any, .any, .any, .any, .any, .any, .any, .any, .any, .any, .any, .any, .any, .any, .any, .any, .any, .any, .any, .any, .any, .any, .any, .any, .any, .any, .any, .any, .any, .any, .any, .any, .any, .any, .any, .any, .any, .any, .any, .any, .any, .any, .any, .any, .any, .any, .any, .any, .any, .any, .any, .any, .any, .any, .any, .any, .any, .any, .any, .any, .any, .any, .any, .any, .any, .any, .any, .any, .any, .any, .any, .any, .any, .any, .any, .any, .any, .any, .any, .any, .any, .any, .any, .any, .any, .any, .any, .any, .any, .any, .any, .any, .any, .any, .any], [.ex false [.c (.fs (.int .u8) a0 false), .c (.sc (.int .i64 a1)), .c (.sc (.int .i64 a2))] 40, .ex false [.c (.fs (.int .u8) a0 false), .c (.sc (.int .i64 a1)), .c (.sc (.int .i64 a2))] 25, .ex false [.c (.fs (.int .u8) t5.2.1 false), .c (.sc (.int .i64 (p2 t5))), .c (.sc (.int .i64 (p3 t5)))] 25, .ex false [.c (.fs (.int .u8) t6.2.1 false), .c (.sc (.int .i64 (p2 t6))), .c (.sc (.int .i64 (p3 t6)))] 40, .ex false [.c (.fs (.int .u8) t7.2.1 false), .c (.sc (.int .i64 (p2 t7))), .c (.sc (.int .i64 (p3 t7)))] 25, .ex false [.c (.fs (.int .u8) t8.2.1 false), .c (.sc (.int .i64 (p2 t8))), .c (.sc (.int .i64 (p3 t8)))] 40], 0⟩)))))))))))))))))))) ∧ ((!t39) = true → ((!t39) = true ∧ ((!t39) = true ∧ ((!t39) = true ∧ ((!t39) = true ∧ (true = true ∧ (true = true ∧ (true = true ∧ (true = true ∧ (true = true ∧ (true = true ∧ (true = true ∧ (true = true ∧ (true = true ∧ (true = true ∧ (true = true ∧ (True ∧ (((True) ∧ (True) ∧ True) ∧ halterlaw18_PipeSteps.l0_Q t5 t6 t7 t8 a0 a1 a2 r .ret ⟨[.any, .any, .any, .any, .any, .any, .v (.one (.sc (.bool false))), .any, .any, .any, .any, .any, .any, .any, .any, .any, .any, .any, .any, .any, .any, .any, .any, .any, .any, .any, .any, .any, .any, .any, .any, .any, .any, .any, .any, .any, .any, .any, .any, .any, .any, .any, .any, .any, .any, .any, .any, .any, .any, .any, .any, .any, .any, .any, .any, .any, .any, .any, .any, .any, .any, .any, .any, .any, .any, .any, .any, .any, .any, .any, .any, .any, .any, .any, .any, .any, .any, .any, .any, .any, .any, .any, .any, .any, .any, .any, .any, .any, .any, .any, .any, .any, .any, .any, .any, .any, .any, .any, .any, .any, .any, .any, .any, .any, .any, .any, .any, .any, .any, .any, .any, .any, .any, .any, .any, .any, .any, .any, .any, .any, .any, .any, .any, .any, .any, .any, .any, .any, .any, .any, .any, .any, .any, .any, .any, .any, .any, .any, .any, .any, .any, .any, .any, .any, .any, .any, .any, .any, .any, .any, .any, .any, .any, .any, .any, .any, .any, .any, .any, .any, .any, .any, .any, .any, .any, .any, .any, .any, .any, .any], [.ex false [.c (.fs (.int .u8) a0 false), .c (.sc (.int .i64 a1)), .c (.sc (.int .i64 a2))] 40, .ex false [.c (.fs (.int .u8) a0 false), .c (.sc (.int .i64 a1)), .c (.sc (.int .i64 a2))] 25, .ex false [.c (.fs (.int .u8) t5.2.1 false), .c (.sc (.int .i64 (p2 t5))), .c (.sc (.int .i64 (p3 t5)))] 25, .ex false [.c (.fs (.int .u8) t6.2.1 false), .c (.sc (.int .i64 (p2 t6))), .c (.sc (.int .i64 (p3 t6)))] 40, .ex false [.c (.fs (.int .u8) t7.2.1 false), .c (.sc (.int .i64 (p2 t7))), .c (.sc (.int .i64 (p3 t7)))] 25, .ex false [.c (.fs (.int .u8) t8.2.1 false), .c (.sc (.int .i64 (p2 t8))), .c (.sc (.int .i64 (p3 t8)))] 40], 0⟩))))))))))))))))))))))))) ∧ ((decide (x19 < (2 : Int))) = false → (((True) ∧ (True) ∧ True) ∧ halterlaw18_PipeSteps.l0_Q t5 t6 t7 t8 a0 a1 a2 r (.exit 0) ⟨[.any, .any, .any, .v (.one (.ptr 0 ⟨0, 0, 0, 0⟩)), .any, .any, .any, .v (.one (.ptr 1 ⟨0, 0, 0, 0⟩)), .any, .any, .any, .any, .any, .any, .any, .any, .any, .any, .any, .any, .any, .any, .any, .any, .any, .any, .any, .any, .any, .any, .any, .any, .any, .any, .any, .any, .any, .any, .any, .any, .any, .any, .any, .any, .any, .any, .any, .any, .any, .any, .any, .any, .any, .any, .any, .any, .any, .any, .any, .any, .any, .any, .any, .any, .any, .any, .any, .any, .any, .any, .any, .any, .any, .any, .any, .any, .any, .any, .any, .any, .any, .any, .any, .any, .any, .any, .any, .any, .any, .any, .any, .any, .any, .any, .any, .any, .any, .any, .any, .any, .any, .any, .any, .any, .any, .any, .any, .any, .any, .any, .any, .any, .any, .any, .any, .any, .any, .any, .any, .any, .any, .any, .any, .any, .any, .any, .any, .any, .any, .any, .any, .any, .any, .any, .any, .any, .any, .any, .any, .any, .any, .any, .any, .any, .any, .any, .any, .any, .any, .any, .any, .any, .any, .any, .any, .any, .any, .any, .any, .any, .any, .any, .any, .any, .any, .any, .any, .any, .any, .any], [.ex false [.c (.fs (.int .u8) a0 false), .c (.sc (.int .i64 a1)), .c (.sc (.int .i64 a2))] 40, .ex false [.c (.fs (.int .u8) a0 false), .c (.sc (.int .i64 a1)), .c (.sc (.int .i64 a2))] 25, .ex false [.c (.fs (.int .u8) t5.2.1 false), .c (.sc (.int .i64 (p2 t5))), .c (.sc (.int .i64 (p3 t5)))] 25, .ex false [.c (.fs (.int .u8) t6.2.1 false), .c (.sc (.int .i64 (p2 t6))), .c (.sc (.int .i64 (p3 t6)))] 40, .ex false [.c (.fs (.int .u8) t7.2.1 false), .c (.sc (.int .i64 (p2 t7))), .c (.sc (.int .i64 (p3 t7)))] 25, .ex false [.c (.fs (.int .u8) t8.2.1 false), .c (.sc (.int .i64 (p2 t8))), .c (.sc (.int .i64 (p3 t8)))] 40], 0⟩)))) (by kernel_rfl) ?_)
    refine ⟨trivial, ?_⟩
    refine ⟨fun b34 => ?_, fun b34 => ?_⟩
    · rw [if_pos (of_decide_eq_true b34)] at h
      refine ⟨trivial, ?_⟩
      refine ⟨trivial, ?_⟩
      obtain ⟨t35, ht35, h⟩ := of_bind h
      refine ⟨t35, ⟨pipe_Open.fun_ ht35, trivial⟩, ?_⟩
      refine ⟨trivial, ?_⟩
      refine ⟨trivial, ?_⟩
      refine ⟨trivial, ?_⟩
      obtain ⟨t36, ht36, h⟩ := of_bind h
      refine ⟨t36, ⟨halterref18_Open.fun_ ht36, trivial⟩, ?_⟩
      refine ⟨trivial, ?_⟩
      refine ⟨trivial, ?_⟩
      refine ⟨trivial, ?_⟩
      obtain ⟨t37, ht37, h⟩ := of_bind h
      refine ⟨t37, ⟨pipe_Close.fun_ ht37, trivial⟩, ?_⟩
      refine ⟨trivial, ?_⟩
      refine ⟨trivial, ?_⟩
      refine ⟨trivial, ?_⟩
      obtain ⟨t38, ht38, h⟩ := of_bind h
      refine ⟨t38, ⟨halterref18_Open.fun_ ht38, trivial⟩, ?_⟩
      refine ⟨trivial, ?_⟩
      refine ⟨trivial, ?_⟩
      refine ⟨trivial, ?_⟩
      obtain ⟨t39, ht39, h⟩ := of_bind h
      refine ⟨t39, ⟨halterlaw18_same.fun_ ht39, trivial⟩, ?_⟩
      refine ⟨fun b40 => ?_, fun b40 => ?_⟩
      · rw [if_neg (not_not_intro (not_f b40))] at h
        refine ⟨b40, ?_⟩
        obtain ⟨t41, ht41, h⟩ := of_bind h
        refine ⟨t41, ⟨num.fun_ ht41, trivial⟩, ?_⟩
        refine ⟨b40, ?_⟩
        refine ⟨b40, ?_⟩
        refine ⟨trivial, ?_⟩
        refine ⟨b40, ?_⟩
        refine ⟨fun b42 => ?_, fun b42 => ?_⟩
        · rw [if_neg (not_not_intro (bne_f b42))] at h
          refine ⟨trivial, ?_⟩
          refine ⟨b42, ?_⟩
          refine ⟨trivial, ?_⟩
          refine ⟨b42, ?_⟩
          obtain ⟨t43, ht43, h⟩ := of_bind h
          refine ⟨t43, ⟨halterlaw18_same.fun_ ht43, trivial⟩, ?_⟩
          refine ⟨b42, ?_⟩
          refine ⟨b42, ?_⟩
          refine ⟨fun b44 => ?_, fun b44 => ?_⟩
          · rw [if_neg (not_not_intro (not_f b44))] at h
            refine ⟨b44, ?_⟩
            obtain ⟨t45, ht45, h⟩ := of_bind h
            refine ⟨t45, ⟨num.fun_ ht45, trivial⟩, ?_⟩
            refine ⟨b44, ?_⟩
            refine ⟨b44, ?_⟩
            refine ⟨trivial, ?_⟩
            refine ⟨b44, ?_⟩
            refine ⟨fun b46 => ?_, fun b46 => ?_⟩
            · rw [if_pos (bne_t b46)] at h
              refine ⟨trivial, ?_⟩
              obtain rfl := Option.some.inj h
              exact ⟨⟨trivial, trivial, trivial⟩, rfl, rfl⟩
            · rw [if_neg (not_not_intro (bne_f b46))] at h
              refine ⟨trivial, ?_⟩
              refine ⟨trivial, ?_⟩
              refine ⟨trivial, ?_⟩
              exact ⟨⟨trivial, trivial, trivial⟩, ih (IntKind.wrap .i64 (x19 + (1 : Int))) r h⟩
          · rw [if_pos (ff (not_t b44))] at h
            refine ⟨b44, ?_⟩
            refine ⟨b44, ?_⟩
            refine ⟨b44, ?_⟩
            refine ⟨b44, ?_⟩
            refine ⟨rfl, ?_⟩
            refine ⟨trivial, ?_⟩
            obtain rfl := Option.some.inj h
            exact ⟨⟨trivial, trivial, trivial⟩, rfl, rfl⟩
        · rw [if_pos (bne_t b42)] at h
          refine ⟨b42, ?_⟩
          refine ⟨b42, ?_⟩
          refine ⟨b42, ?_⟩
          refine ⟨b42, ?_⟩
          refine ⟨rfl, ?_⟩
          refine ⟨rfl, ?_⟩
          refine ⟨rfl, ?_⟩
          refine ⟨rfl, ?_⟩
          refine ⟨rfl, ?_⟩
          refine ⟨rfl, ?_⟩
          refine ⟨trivial, ?_⟩
          obtain rfl := Option.some.inj h
          exact ⟨⟨trivial, trivial, trivial⟩, rfl, rfl⟩
      · rw [if_pos (ff (not_t b40))] at h
        refine ⟨b40, ?_⟩
        refine ⟨b40, ?_⟩
        refine ⟨b40, ?_⟩
        refine ⟨b40, ?_⟩
        refine ⟨rfl, ?_⟩
        refine ⟨rfl, ?_⟩
        refine ⟨rfl, ?_⟩
        refine ⟨rfl, ?_⟩
        refine ⟨rfl, ?_⟩
        refine ⟨rfl, ?_⟩
        refine ⟨rfl, ?_⟩
        refine ⟨rfl, ?_⟩
        refine ⟨rfl, ?_⟩
        refine ⟨rfl, ?_⟩
        refine ⟨rfl, ?_⟩
        refine ⟨trivial, ?_⟩
        obtain rfl := Option.some.inj h
        exact ⟨⟨trivial, trivial, trivial⟩, rfl, rfl⟩
    · rw [if_neg (of_decide_eq_false b34)] at h
      obtain rfl := Option.some.inj h
      exact ⟨⟨trivial, trivial, trivial⟩, rfl, rfl⟩
def halterlaw18_PipeSteps.f (a0 : (List Int)) (a1 : Int) (a2 : Int) (a3 : Int) (a4 : (List Int)) : Option Bool :=
  if (((List.length a0) : Nat) : Int) > (200 : Int) then
    halterlaw18_sure.f.bind fun t2 =>
    some t2
  else
    if (((List.length a4) : Nat) : Int) > (300 : Int) then
      halterlaw18_sure.f.bind fun t4 =>
      some t4
    else
      (pipe_Read.f a0 a1 a2 a3).bind fun t5 =>
      (halterref18_Read.f a0 a1 a2 a3).bind fun t6 =>
      (pipe_Write.f a0 a1 a2 a4).bind fun t7 =>
      (halterref18_Write.f a0 a1 a2 a4).bind fun t8 =>
      if ¬ ((strOfNums t5.1) = (strOfNums t6.1)) then
        some false
      else
        (halterlaw18_same.f t5.2.1 t5.2.2.1 t5.2.2.2.1 t6.2.1 t6.2.2.1 t6.2.2.2.1).bind fun t10 =>
        if ¬ (t10 = true) then
          some false
        else
          (num.f t5.2.2.2.2).bind fun t12 =>
          if ¬ t12 = t6.2.2.2.2 then
            some false
          else
            if ¬ t7.1 = t8.1 then
              some false
            else
              (halterlaw18_same.f t7.2.1 t7.2.2.1 t7.2.2.2.1 t8.2.1 t8.2.2.1 t8.2.2.2.1).bind fun t15 =>
              if ¬ (t15 = true) then
                some false
              else
                (num.f t7.2.2.2.2).bind fun t17 =>
                if ¬ t17 = t8.2.2.2.2 then
                  some false
                else
                  (halterlaw18_PipeSteps.l0 t5 t6 t7 t8 a0 a1 a2 FUEL (0 : Int)).bind fun t33 =>
                  match t33 with
                  | .inl t47 =>
                    (halterlaw18_same.f a0 a1 a2 a0 a1 a2).bind fun t48 =>
                    if t48 = true then
                      (pipe_Check.f a0 a1 a2).bind fun t50 =>
                      (halterref18_May.f a0 a1 a2).bind fun t51 =>
                      if (Option.isNone t50) = t51 then
                        halterlaw18_sure.f.bind fun t53 =>
                        some t53
                      else
                        some false
                    else
                      some false
                  | .inr t54 =>
                    some false
def halterlaw18_PipeSteps.R (r : Bool) : Tm := .v (.one (.sc (.bool r)))
theorem halterlaw18_PipeSteps.fun_ {a0 : (List Int)} {a1 : Int} {a2 : Int} {a3 : Int} {a4 : (List Int)} {r : Bool} (h : halterlaw18_PipeSteps.f a0 a1 a2 a3 a4 = some r) : Fun cfg 4 [.agg [.c (.fs (.int .u8) a0 false), .c (.sc (.int .i64 a1)), .c (.sc (.int .i64 a2))], .one (.sc (.int .i64 a3)), .one (.fs (.int .u8) a4 false)] [] (halterlaw18_PipeSteps.R r) [] := by
  unfold halterlaw18_PipeSteps.f at h
  refine fun_of_run cfg_ok (f := 4) (fn := Tryd.f4) Tryd.func4 rfl (by kernel_rfl) (rs := [.tmp 6]) rfl (nt := 170) rfl (l := fin) (k := (.br (.one true (.one true (.one true (.one true (.call true [] (Bool) (fun t2 => halterlaw18_sure.R t2) (fun t2 => (.adj [] (.adj [.drop 0] .nil)))))))) (.one false (.one false (.one false (.br (.call true [] (Bool) (fun t4 => halterlaw18_sure.R t4) (fun t4 => (.adj [] (.adj [.drop 0] .nil)))) (.call true [] (TY0) (fun t5 => pipe_Read.R t5) (fun t5 => (.call true [] ((List Int) × (List Int) × Int × Int × Int) (fun t6 => halterref18_Read.R t6) (fun t6 => (.call true [] (TY1) (fun t7 => pipe_Write.R t7) (fun t7 => (.call true [] (Int × (List Int) × Int × Int × Int) (fun t8 => halterref18_Write.R t8) (fun t8 => (.d (.b false) (.d (.b false) (.br (.one true (.one true (.one true (.one true (.one true (.one true (.one true (.one true (.one true (.one true (.one true (.one true (.one true (.one true (.one true (.one true (.one true (.one true (.one true (.one true (.one true (.one true (.one true (.one true (.adj [] (.adj [] (.adj [.drop 0] .nil))))))))))))))))))))))))))) (.one false (.one false (.call true [] (Bool) (fun t10 => halterlaw18_same.R t10) (fun t10 => (.one false (.one false (.br (.one true (.one true (.one true (.one true (.one true (.one true (.one true (.one true (.one true (.one true (.one true (.one true (.one true (.one true (.one true (.one true (.one true (.one true (.one true (.adj [] (.adj [] (.adj [.drop 0] .nil)))))))))))))))))))))) (.one false (.call true [] (Int) (fun t12 => num.R t12) (fun t12 => (.one false (.one false (.one false (.br (.one true (.one true (.one true (.one true (.one true (.one true (.one true (.one true (.one true (.one true (.one true (.one true (.one true (.one true (.adj [] (.adj [] (.adj [.drop 0] .nil))))))))))))))))) (.one false (.one false (.one false (.br (.one true (.one true (.one true (.one true (.one true (.one true (.one true (.one true (.one true (.one true (.adj [] (.adj [] (.adj [.drop 0] .nil))))))))))))) (.one false (.one false (.call true [] (Bool) (fun t15 => halterlaw18_same.R t15) (fun t15 => (.one false (.one false (.br (.one true (.one true (.one true (.one true (.one true (.adj [] (.adj [] (.adj [.drop 0] .nil)))))))) (.one false (.call true [] (Int) (fun t17 => num.R t17) (fun t17 => (.one false (.one false (.one false (.br (.adj [] (.adj [] (.adj [.drop 0] .nil))) (.adj [] (.adj [] (.adj [] (.adj [.keep [3, 7, 20]] (.alt (.sub (Unit) (fun _ => (.exit 0)) (fun t47 => ⟨[.any, .any, .any, .v (.one (.ptr 0 ⟨0, 0, 0, 0⟩)), .any, .any, .any, .v (.one (.ptr 1 ⟨0, 0, 0, 0⟩)), .any, .any, .any, .any, .any, .any, .any, .any, .any, .any, .any, .any, .any, .any, .any, .any, .any, .any, .any, .any, .any, .any, .any, .any, .any, .any, .any, .any, .any, .any, .any, .any, .any, .any, .any, .any, .any, .any, .any, .any, .any, .any, .any, .any, .any, .any, .any, .any, .any, .any, .any, .any, .any, .any, .any, .any, .any, .any, .any, .any, .any, .any, .any, .any, .any, .any, .any, .any, .any, .any, .any, .any, .any, .any, .any, .any, .any, .any, .any, .any, .any, .any, .any, .any, .any, .any, .any, .any, .any, .any, .any, .any, .any, .any, .any, .any, .any, .any, .any, .any, .any, .any, .any, .any, .any, .any, .any, .any, .any, .any, .any, .any, .any, .any, .any, .any, .any, .any, .any, .any, .any, .any, .any, .any, .any, .any, .any, .any, .any, .any, .any, .any, .any, .any, .any, .any, .any, .any, .any, .any, .any, .any, .any, .any, .any, .any, .any, .any, .any, .any, .any, .any, .any, .any, .any, .any, .any, .any, .any, .any, .any, .any], [.ex false [.c (.fs (.int .u8) a0 false), .c (.sc (.int .i64 a1)), .c (.sc (.int .i64 a2))] 40, .ex false [.c (.fs (.int .u8) a0 false), .c (.sc (.int .i64 a1)), .c (.sc (.int .i64 a2))] 25, .ex false [.c (.fs (.int .u8) t5.2.1 false), .c (.sc (.int .i64 (p2 t5))), .c (.sc (.int .i64 (p3 t5)))] 25, .ex false [.c (.fs (.int .u8) t6.2.1 false), .c (.sc (.int .i64 (p2 t6))), .c (.sc (.int .i64 (p3 t6)))] 40, .ex false [.c (.fs (.int .u8) t7.2.1 false), .c (.sc (.int .i64 (p2 t7))), .c (.sc (.int .i64 (p3 t7)))] 25, .ex false [.c (.fs (.int .u8) t8.2.1 false), .c (.sc (.int .i64 (p2 t8))), .c (.sc (.int .i64 (p3 t8)))] 40], 0⟩) (fun t47 => (.ex (Bool) (fun t48 => (.emb t48 (.ex ((Option Int)) (fun t50 => (.ex (Bool) (fun t51 => (.emb ((Option.isNone t50) == t51) (.ex (Bool) (fun t53 => (.dr [(0, dN), (1, dN), (2, ⟨none, .callP true [] (halterlaw18_same.R t48), false⟩), (3, dN), (4, dT), (5, ⟨(some true), .callP true [] (pipe_Check.R t50), false⟩), (6, dT), (7, dT), (8, ⟨(some true), .callP true [] (halterref18_May.R t51), false⟩), (9, dT), (10, d1), (11, dN), (12, ⟨(some true), .callP true [] (halterlaw18_sure.R t53), false⟩), (13, d1), (14, dN)] (.adj [] (.adj [.drop 0] .nil))))) (.dr [(0, dN), (1, dN), (2, ⟨none, .callP true [] (halterlaw18_same.R t48), false⟩), (3, dN), (4, dT), (5, ⟨(some true), .callP true [] (pipe_Check.R t50), false⟩), (6, dT), (7, dT), (8, ⟨(some true), .callP true [] (halterref18_May.R t51), false⟩), (9, dT), (10, d1), (11, dN), (12, dC), (13, d0), (14, dN)] (.adj [] (.adj [.drop 0] .nil)))))))) (.dr [(0, dN), (1, dN), (2, ⟨none, .callP true [] (halterlaw18_same.R t48), false⟩), (3, dN), (4, dF), (5, dC), (6, dF), (7, dF), (8, dC), (9, dF), (10, d0), (11, dN), (12, dC), (13, d0), (14, dN)] (.adj [] (.adj [.drop 0] .nil)))))))) (.sub (Unit) (fun _ => .ret) (fun t54 => ⟨[.any, .any, .any, .any, .any, .any, .v (.one (.sc (.bool false))), .any, .any, .any, .any, .any, .any, .any, .any, .any, .any, .any, .any, .any, .any, .any, .any, .any, .any, .any, .any, .any, .any, .any, .any, .any, .any, .any, .any, .any, .any, .any, .any, .any, .any, .any, .any, .any, .any, .any, .any, .any, .any, .any, .any, .any, .any, .any, .any, .any, .any, .any, .any, .any, .any, .any, .any, .any, .any, .any, .any, .any, .any, .any, .any, .any, .any, .any, .any, .any, .any, .any, .any, .any, .any, .any, .any, .any, .any, .any, .any, .any, .any, .any, .any, .any, .any, .any, .any, .any, .any, .any, .any, .any, .any, .any, .any, .any, .any, .any, .any, .any, .any, .any, .any, .any, .any, .any, .any, .any, .any, .any, .any, .any, .any, .any, .any, .any, .any, .any, .any, .any, .any, .any, .any, .any, .any, .any, .any, .any, .any, .any, .any, .any, .any, .any, .any, .any, .any, .any, .any, .any, .any, .any, .any, .any, .any, .any, .any, .any, .any, .any, .any, .any, .any, .any, .any, .any, .any, .any, .any, .any, .any, .any], [.ex false [.c (.fs (.int .u8) a0 false), .c (.sc (.int .i64 a1)), .c (.sc (.int .i64 a2))] 40, .ex false [.c (.fs (.int .u8) a0 false), .c (.sc (.int .i64 a1)), .c (.sc (.int .i64 a2))] 25, .ex false [.c (.fs (.int .u8) t5.2.1 false), .c (.sc (.int .i64 (p2 t5))), .c (.sc (.int .i64 (p3 t5)))] 25, .ex false [.c (.fs (.int .u8) t6.2.1 false), .c (.sc (.int .i64 (p2 t6))), .c (.sc (.int .i64 (p3 t6)))] 40, .ex false [.c (.fs (.int .u8) t7.2.1 false), .c (.sc (.int .i64 (p2 t7))), .c (.sc (.int .i64 (p3 t7)))] 25, .ex false [.c (.fs (.int .u8) t8.2.1 false), .c (.sc (.int .i64 (p2 t8))), .c (.sc (.int .i64 (p3 t8)))] 40], 0⟩) (fun t54 => (.adj [.drop 0] .nil))))))))))))))))))))))))))))))))))))))))))))))))))))))))) (to_goal (q := (True) ∧ (True) ∧ (True) ∧ (((decide ((((List.length a0) : Nat) : Int) > (200 : Int))) = false → ((decide ((((List.length a0) : Nat) : Int) > (200 : Int))) = false ∧ (True) ∧ ((decide ((((List.length a0) : Nat) : Int) > (200 : Int))) = false ∧ (True) ∧ ((decide ((((List.length a0) : Nat) : Int) > (200 : Int))) = false ∧ (((decide ((((List.length a4) : Nat) : Int) > (300 : Int))) = true → (∃ t4 : Bool, (Fun cfg 10 [] [] (halterlaw18_sure.R t4) [] ∧ True) ∧ (True ∧ ((True) ∧ ((True) ∧ True) ∧ (.v (.one (.sc (.bool t4))) : Tm) = halterlaw18_PipeSteps.R r ∧ ([] : List Box) = [])))) ∧ ((decide ((((List.length a4) : Nat) : Int) > (300 : Int))) = false → (True) ∧ (True) ∧ (True) ∧ (∃ t5 : TY0, (Fun cfg 9 [.agg [.c (.fs (.int .u8) a0 false), .c (.sc (.int .i64 a1)), .c (.sc (.int .i64 a2))], .one (.sc (.int .i64 a3))] [] (pipe_Read.R t5) [] ∧ True) ∧ (True) ∧ (True) ∧ (∃ t6 : (List Int) × (List Int) × Int × Int × Int, (Fun cfg 11 [.agg [.c (.fs (.int .u8) a0 false), .c (.sc (.int .i64 a1)), .c (.sc (.int .i64 a2))], .one (.sc (.int .i64 a3))] [] (halterref18_Read.R t6) [] ∧ True) ∧ (True) ∧ (True) ∧ (∃ t7 : TY1, (Fun cfg 7 [.agg [.c (.fs (.int .u8) a0 false), .c (.sc (.int .i64 a1)), .c (.sc (.int .i64 a2))], .one (.fs (.int .u8) a4 false)] [] (pipe_Write.R t7) [] ∧ True) ∧ (True) ∧ (True) ∧ (∃ t8 : Int × (List Int) × Int × Int × Int, (Fun cfg 12 [.agg [.c (.fs (.int .u8) a0 false), .c (.sc (.int .i64 a1)), .c (.sc (.int .i64 a2))], .one (.fs (.int .u8) a4 false)] [] (halterref18_Write.R t8) [] ∧ True) ∧ (True) ∧ (True) ∧ (True) ∧ (True) ∧ (((!((strOfNums t5.1).toList == (strOfNums t6.1).toList)) = false → (True) ∧ ((!((strOfNums t5.1).toList == (strOfNums t6.1).toList)) = false ∧ (True) ∧ ((!((strOfNums t5.1).toList == (strOfNums t6.1).toList)) = false ∧ (∃ t10 : Bool, (Fun cfg 13 [.agg [.c (.fs (.int .u8) t5.2.1 false), .c (.sc (.int .i64 (p2 t5))), .c (.sc (.int .i64 (p3 t5)))], .agg [.c (.fs (.int .u8) t6.2.1 false), .c (.sc (.int .i64 (p2 t6))), .c (.sc (.int .i64 (p3 t6)))]] [] (halterlaw18_same.R t10) [] ∧ True) ∧ ((!((strOfNums t5.1).toList == (strOfNums t6.1).toList)) = false ∧ ((!((strOfNums t5.1).toList == (strOfNums t6.1).toList)) = false ∧ (((!t10) = false → ((!t10) = false ∧ (∃ t12 : Int, (Fun cfg 8 [.one (.err (z4 t5))] [] (num.R t12) [] ∧ True) ∧ ((!t10) = false ∧ ((!t10) = false ∧ (True) ∧ ((!t10) = false ∧ (((t12 != (z4 t6)) = false → ((t12 != (z4 t6)) = false ∧ ((t12 != (z4 t6)) = false ∧ (True) ∧ ((t12 != (z4 t6)) = false ∧ (((t7.1 != t8.1) = false → (True) ∧ ((t7.1 != t8.1) = false ∧ (True) ∧ ((t7.1 != t8.1) = false ∧ (∃ t15 : Bool, (Fun cfg 13 [.agg [.c (.fs (.int .u8) t7.2.1 false), .c (.sc (.int .i64 (p2 t7))), .c (.sc (.int .i64 (p3 t7)))], .agg [.c (.fs (.int .u8) t8.2.1 false), .c (.sc (.int .i64 (p2 t8))), .c (.sc (.int .i64 (p3 t8)))]] [] (halterlaw18_same.R t15) [] ∧ True) ∧ ((t7.1 != t8.1) = false ∧ ((t7.1 != t8.1) = false ∧ (((!t15) = false → ((!t15) = false ∧ (∃ t17 : Int, (Fun cfg 8 [.one (.err (z4 t7))] [] (num.R t17) [] ∧ True) ∧ ((!t15) = false ∧ ((!t15) = false ∧ (True) ∧ ((!t15) = false ∧ (((t17 != (z4 t8)) = true → (True ∧ (True ∧ ((True) ∧ ((True) ∧ True) ∧ (.v (.one (.sc (.bool false))) : Tm) = halterlaw18_PipeSteps.R r ∧ ([] : List Box) = [])))) ∧ ((t17 != (z4 t8)) = false → (True ∧ (True ∧ (True ∧ (((True) ∧ True) ∧ ((∃ t47 : Unit, Trip cfg (.loop (cpath (Tryd.f4.body.getD .skip) [1, 1, 1, 1, 1, 1, 1, 1, 0, 1, 0, 0])) ⟨[.any, .any, .any, .v (.one (.ptr 0 ⟨0, 0, 0, 0⟩)), .any, .any, .any, .v (.one (.ptr 1 ⟨0, 0, 0, 0⟩)), .any, .any, .any, .any, .any, .any, .any, .any, .any, .any, .any, .any, .v (.one (.sc (.int .i64 (0 : Int)))), .any, .any, .any, .any, .any, .any, .any, .any, .any, .any, .any, .any, .any, .any, .any, .any, .any, .any, .any, .any, .any, .any, .any, .any, .any, .any, .any, .any, .any, .any, .any, .any, .any, .any, .any, .any, .any, .any, .any, .any, .any, .any, .any, .any, .any, .any, .any, .any, .any, .any, .any, .any, .any, .any, .any, .any, .any, .any, .any, .any, .any, .any, .any, .any, .any, .any, .any, .any, .any, .any, .any, .any, .any, .any, .any, .any, .any, .any, .any, .any, .any, .any, .any, .any, .any, .any, .any, .any, .any, .any, .any, .any, .any, .any, .any, .any, .any, .any, .any, .any, .any, .any, .any, .any, .any, .any, .any, .any, .any, .any, .any, .any, .any, .any, .any, .any, .any, .any, .any, .any, .any, .any, .any, .any, .any, .any, .any, .any, .any, .any, .any, .any, .any, .any, .any, .any, .any, .any, .any, .any, .any, .any, .any, .any, .any, .any, .any, .any, .any], [.ex false [.c (.fs (.int .u8) a0 false), .c (.sc (.int .i64 a1)), .c (.sc (.int .i64 a2))] 40, .ex false [.c (.fs (.int .u8) a0 false), .c (.sc (.int .i64 a1)), .c (.sc (.int .i64 a2))] 25, .ex false [.c (.fs (.int .u8) t5.2.1 false), .c (.sc (.int .i64 (p2 t5))), .c (.sc (.int .i64 (p3 t5)))] 25, .ex false [.c (.fs (.int .u8) t6.2.1 false), .c (.sc (.int .i64 (p2 t6))), .c (.sc (.int .i64 (p3 t6)))] 40, .ex false [.c (.fs (.int .u8) t7.2.1 false), .c (.sc (.int .i64 (p2 t7))), .c (.sc (.int .i64 (p3 t7)))] 25, .ex false [.c (.fs (.int .u8) t8.2.1 false), .c (.sc (.int .i64 (p2 t8))), .c (.sc (.int .i64 (p3 t8)))] 40], 0⟩ (fun e s => e = (.exit 0) ∧ s = ⟨[.any, .any, .any, .v (.one (.ptr 0 ⟨0, 0, 0, 0⟩)), .any, .any, .any, .v (.one (.ptr 1 ⟨0, 0, 0, 0⟩)), .any, .any, .any, .any, .any, .any, .any, .any, .any, .any, .any, .any, .any, .any, .any, .any, .any, .any, .any, .any, .any, .any, .any, .any, .any, .any, .any, .any, .any, .any, .any, .any, .any, .any, .any, .any, .any, .any, .any, .any, .any, .any, .any, .any, .any, .any, .any, .any, .any, .any, .any, .any, .any, .any, .any, .any, .any, .any, .any, .any, .any, .any, .any, .any, .any, .any, .any, .any, .any, .any, .any, .any, .any, .any, .any, .any, .any, .any, .any, .any, .any, .any, .any, .any, .any, .any, .any, .any, .any, .any, .any, .any, .any, .any, .any, .any, .any, .any, .any, .any, .any, .any, .any, .any, .any, .any, .any, .any, .any, .any, .any, .any, .any, .any, .any, .any, .any, .any, .any, .any, .any, .any, .any, .any, .any, .any, .any, .any, .any, .any, .any, .any, .any, .any, .any, .any, .any, .any, .any, .any, .any, .any, .any, .any, .any, .any, .any, .any, .any, .any, .any, .any, .any, .any, .any, .any, .any, .any, .any, .any, .any, .any], [.ex false [.c (.fs (.int .u8) a0 false), .c (.sc (.int .i64 a1)), .c (.sc (.int .i64 a2))] 40, .ex false [.c (.fs (.int .u8) a0 false), .c (.sc (.int .i64 a1)), .c (.sc (.int .i64 a2))] 25, .ex false [.c (.fs (.int .u8) t5.2.1 false), .c (.sc (.int .i64 (p2 t5))), .c (.sc (.int .i64 (p3 t5)))] 25, .ex false [.c (.fs (.int .u8) t6.2.1 false), .c (.sc (.int .i64 (p2 t6))), .c (.sc (.int .i64 (p3 t6)))] 40, .ex false [.c (.fs (.int .u8) t7.2.1 false), .c (.sc (.int .i64 (p2 t7))), .c (.sc (.int .i64 (p3 t7)))] 25, .ex false [.c (.fs (.int .u8) t8.2.1 false), .c (.sc (.int .i64 (p2 t8))), .c (.sc (.int .i64 (p3 t8)))] 40], 0⟩) ∧ (∃ t48 : Bool, ((t48 = true → (∃ t50 : (Option Int), (∃ t51 : Bool, ((((Option.isNone t50) == t51) = true → (∃ t53 : Bool, (True) ∧ (True) ∧ (Fun cfg 13 [.agg [.c (.fs (.int .u8) a0 false), .c (.sc (.int .i64 a1)), .c (.sc (.int .i64 a2))], .agg [.c (.fs (.int .u8) a0 false), .c (.sc (.int .i64 a1)), .c (.sc (.int .i64 a2))]] [] (halterlaw18_same.R t48) [] ∧ True) ∧ (t48 = true ∧ True) ∧ (t48 = true ∧ Fun cfg 16 [.agg [.c (.fs (.int .u8) a0 false), .c (.sc (.int .i64 a1)), .c (.sc (.int .i64 a2))]] [] (pipe_Check.R t50) [] ∧ True) ∧ (t48 = true ∧ True) ∧ (t48 = true ∧ True) ∧ (t48 = true ∧ Fun cfg 17 [.agg [.c (.fs (.int .u8) a0 false), .c (.sc (.int .i64 a1)), .c (.sc (.int .i64 a2))]] [] (halterref18_May.R t51) [] ∧ True) ∧ (t48 = true ∧ True) ∧ (t48 = true) ∧ (((Option.isNone t50) == t51) = true ∧ Fun cfg 10 [] [] (halterlaw18_sure.R t53) [] ∧ True) ∧ (((Option.isNone t50) == t51) = true) ∧ (True ∧ ((True) ∧ ((True) ∧ True) ∧ (.v (.one (.sc (.bool t53))) : Tm) = halterlaw18_PipeSteps.R r ∧ ([] : List Box) = [])))) ∧ (((Option.isNone t50) == t51) = false → (True) ∧ (True) ∧ (Fun cfg 13 [.agg [.c (.fs (.int .u8) a0 false), .c (.sc (.int .i64 a1)), .c (.sc (.int .i64 a2))], .agg [.c (.fs (.int .u8) a0 false), .c (.sc (.int .i64 a1)), .c (.sc (.int .i64 a2))]] [] (halterlaw18_same.R t48) [] ∧ True) ∧ (t48 = true ∧ True) ∧ (t48 = true ∧ Fun cfg 16 [.agg [.c (.fs (.int .u8) a0 false), .c (.sc (.int .i64 a1)), .c (.sc (.int .i64 a2))]] [] (pipe_Check.R t50) [] ∧ True) ∧ (t48 = true ∧ True) ∧ (t48 = true ∧ True) ∧ (t48 = true ∧ Fun cfg 17 [.agg [.c (.fs (.int .u8) a0 false), .c (.sc (.int .i64 a1)), .c (.sc (.int .i64 a2))]] [] (halterref18_May.R t51) [] ∧ True) ∧ (t48 = true ∧ True) ∧ (t48 = true) ∧ (((Option.isNone t50) == t51) = false) ∧ (((Option.isNone t50) == t51) = false) ∧ (True ∧ ((True) ∧ ((True) ∧ True) ∧ (.v (.one (.sc (.bool false))) : Tm) = halterlaw18_PipeSteps.R r ∧ ([] : List Box) = []))))))) ∧ (t48 = false → (True) ∧ (True) ∧ (Fun cfg 13 [.agg [.c (.fs (.int .u8) a0 false), .c (.sc (.int .i64 a1)), .c (.sc (.int .i64 a2))], .agg [.c (.fs (.int .u8) a0 false), .c (.sc (.int .i64 a1)), .c (.sc (.int .i64 a2))]] [] (halterlaw18_same.R t48) [] ∧ True) ∧ (t48 = false) ∧ (t48 = false) ∧ (t48 = false) ∧ (t48 = false) ∧ (t48 = false) ∧ (t48 = false) ∧ (t48 = false) ∧ (false = false) ∧ (false = false) ∧ (True ∧ ((True) ∧ ((True) ∧ True) ∧ (.v (.one (.sc (.bool false))) : Tm) = halterlaw18_PipeSteps.R r ∧ ([] : List Box) = [])))))) ∨ (∃ t54 : Unit, Trip cfg (.loop (cpath (Tryd.f4.body.getD .skip) [1, 1, 1, 1, 1, 1, 1, 1, 0, 1, 0, 0])) ⟨[.any, .any, .any, .v (.one (.ptr 0 ⟨0, 0, 0, 0⟩)), .any, .any, .any, .v (.one (.ptr 1 ⟨0, 0, 0, 0⟩)), .any, .any, .any, .any, .any, .any, .any, .any, .any, .any, .any, .any, .v (.one (.sc (.int .i64 (0 : Int)))), .any, .any, .any, .any, .any, .any, .any, .any, .any, .any, .any, .any, .any, .any, .any, .any, .any, .any, .any, .any, .any, .any, .any, .any, .any, .any, .any, .any, .any, .any, .any, .any, .any, .any, .any, .any, .any, .any, .any, .any, .any, .any, .any, .any, .any, .any, .any, .any, .any, .any, .any, .any, .any, .any, .any, .any, .any, .any, .any, .any, .any, .any, .any, .any, .any, .any, .any, .any, .any, .any, .any, .any, .any, .any, .any, .any, .any, .any, .any, .any, .any, .any, .any, .any, .any, .any, .any, .any, .any, .any, .any, .any, .any, .any, .any, .any, .any, .any, .any, .any, .any, .any, .any, .any, .any, .any, .any, .any, .any, .any, .any, .any, .any, .any, .any, .any, .any, .any, .any, .any, .any, .any, .any, .any, .any, .any, .any, .any, .any, .any, .any, .any, .any, .any, .any, .any, .any, .any, .any, .any, .any, .any, .any, .any, .any, .any, .any, .any, .any], [.ex false [.c (.fs (.int .u8) a0 false), .c (.sc (.int .i64 a1)), .c (.sc (.int .i64 a2))] 40, .ex false [.c (.fs (.int .u8) a0 false), .c (.sc (.int .i64 a1)), .c (.sc (.int .i64 a2))] 25, .ex false [.c (.fs (.int .u8) t5.2.1 false), .c (.sc (.int .i64 (p2 t5))), .c (.sc (.int .i64 (p3 t5)))] 25, .ex false [.c (.fs (.int .u8) t6.2.1 false), .c (.sc (.int .i64 (p2 t6))), .c (.sc (.int .i64 (p3 t6)))] 40, .ex false [.c (.fs (.int .u8) t7.2.1 false), .c (.sc (.int .i64 (p2 t7))), .c (.sc (.int .i64 (p3 t7)))] 25, .ex false [.c (.fs (.int .u8) t8.2.1 false), .c (.sc (.int .i64 (p2 t8))), .c (.sc (.int .i64 (p3 t8)))] 40], 0⟩ (fun e s => e = .ret ∧ s = ⟨[.any, .any, .any, .any, .any, .any, .v (.one (.sc (.bool false))), .any, .any, .any, .any, .any, .any, .any, .any, .any, .any, .any, .any, .any, .any, .any, .any, .any, .any, .any, .any, .any, .any, .any, .any, .any, .any, .any, .any, .any, .any, .any, .any, .any, .any, .any, .any, .any, .any, .any, .any, .any, .any, .any, .any, .any, .any, .any, .any, .any, .any, .any, .any, .any, .any, .any, .any, .any, .any, .any, .any, .any, .any, .any, .any, .any, .any, .any, .any, .any, .any, .any, .any, .any, .any, .any, .any, .any, .any, .any, .any, .any, .any, .any, .any, .any, .any, .any, .any, .any, .any, .any, .any, .any, .any, .any, .any, .any, .any, .any, .any, .any, .any, .any, .any, .any, .any, .any, .any, .any, .any, .any, .any, .any, .any, .any, .any, .any, .any, .any, .any, .any, .any, .any, .any, .any, .any, .any, .any, .any, .any, .any, .any, .any, .any, .any, .any, .any, .any, .any, .any, .any, .any, .any, .any, .any, .any, .any, .any, .any, .any, .any, .any, .any, .any, .any, .any, .any, .any, .any, .any, .any, .any, .any], [.ex false [.c (.fs (.int .u8) a0 false), .c (.sc (.int .i64 a1)), .c (.sc (.int .i64 a2))] 40, .ex false [.c (.fs (.int .u8) a0 false), .c (.sc (.int .i64 a1)), .c (.sc (.int .i64 a2))] 25, .ex false [.c (.fs (.int .u8) t5.2.1 false), .c (.sc (.int .i64 (p2 t5))), .c (.sc (.int .i64 (p3 t5)))] 25, .ex false [.c (.fs (.int .u8) t6.2.1 false), .c (.sc (.int .i64 (p2 t6))), .c (.sc (.int .i64 (p3 t6)))] 40, .ex false [.c (.fs (.int .u8) t7.2.1 false), .c (.sc (.int .i64 (p2 t7))), .c (.sc (.int .i64 (p3 t7)))] 25, .ex false [.c (.fs (.int .u8) t8.2.1 false), .c (.sc (.int .i64 (p2 t8))), .c (.sc (.int .i64 (p3 t8)))] 40], 0⟩) ∧ ((True) ∧ ((True) ∧ True) ∧ (.v (.one (.sc (.bool false))) : Tm) = halterlaw18_PipeSteps.R r ∧ ([] : List Box) = []))))))))))))))) ∧ ((!t15) = true → ((!t15) = true ∧ ((!t15) = true ∧ ((!t15) = true ∧ ((!t15) = true ∧ (true = true ∧ (True ∧ (True ∧ ((True) ∧ ((True) ∧ True) ∧ (.v (.one (.sc (.bool false))) : Tm) = halterlaw18_PipeSteps.R r ∧ ([] : List Box) = [])))))))))))))))) ∧ ((t7.1 != t8.1) = true → ((t7.1 != t8.1) = true ∧ ((t7.1 != t8.1) = true ∧ ((t7.1 != t8.1) = true ∧ ((t7.1 != t8.1) = true ∧ (true = true ∧ (true = true ∧ (true = true ∧ (true = true ∧ (true = true ∧ (true = true ∧ (True ∧ (True ∧ ((True) ∧ ((True) ∧ True) ∧ (.v (.one (.sc (.bool false))) : Tm) = halterlaw18_PipeSteps.R r ∧ ([] : List Box) = []))))))))))))))))))) ∧ ((t12 != (z4 t6)) = true → ((t12 != (z4 t6)) = true ∧ ((t12 != (z4 t6)) = true ∧ ((t12 != (z4 t6)) = true ∧ (true = true ∧ (true = true ∧ (true = true ∧ (true = true ∧ (true = true ∧ (true = true ∧ (true = true ∧ (true = true ∧ (true = true ∧ (true = true ∧ (true = true ∧ (True ∧ (True ∧ ((True) ∧ ((True) ∧ True) ∧ (.v (.one (.sc (.bool false))) : Tm) = halterlaw18_PipeSteps.R r ∧ ([] : List Box) = []))))))))))))))))))))))))) ∧ ((!t10) = true → ((!t10) = true ∧ ((!t10) = true ∧ ((!t10) = true ∧ ((!t10) = true ∧ (true = true ∧ (true = true ∧ (true = true ∧ (true = true ∧ (true = true ∧ (true = true ∧ (true = true ∧ (true = true ∧ (true = true ∧ (true = true ∧ (true = true ∧ (true = true ∧ (true = true ∧ (true = true ∧ (true = true ∧ (True ∧ (True ∧ ((True) ∧ ((True) ∧ True) ∧ (.v (.one (.sc (.bool false))) : Tm) = halterlaw18_PipeSteps.R r ∧ ([] : List Box) = [])))))))))))))))))))))))))))))) ∧ ((!((strOfNums t5.1).toList == (strOfNums t6.1).toList)) = true → ((!((strOfNums t5.1).toList == (strOfNums t6.1).toList)) = true ∧ ((!((strOfNums t5.1).toList == (strOfNums t6.1).toList)) = true ∧ ((!((strOfNums t5.1).toList == (strOfNums t6.1).toList)) = true ∧ ((!((strOfNums t5.1).toList == (strOfNums t6.1).toList)) = true ∧ (true = true ∧ (true = true ∧ (true = true ∧ (true = true ∧ (true = true ∧ (true = true ∧ (true = true ∧ (true = true ∧ (true = true ∧ (true = true ∧ (true = true ∧ (true = true ∧ (true = true ∧ (true = true ∧ (true = true ∧ (true = true ∧ (true = true ∧ (true = true ∧ (true = true ∧ (true = true ∧ (True ∧ (True ∧ ((True) ∧ ((True) ∧ True) ∧ (.v (.one (.sc (.bool false))) : Tm) = halterlaw18_PipeSteps.R r ∧ ([] : List Box) = []))))))))))))))))))))))))))))))))))))))) ∧ ((decide ((((List.length a0) : Nat) : Int) > (200 : Int))) = true → ((decide ((((List.length a0) : Nat) : Int) > (200 : Int))) = true ∧ ((decide ((((List.length a0) : Nat) : Int) > (200 : Int))) = true ∧ ((decide ((((List.length a0) : Nat) : Int) > (200 : Int))) = true ∧ (true = true ∧ (∃ t2 : Bool, (Fun cfg 10 [] [] (halterlaw18_sure.R t2) [] ∧ True) ∧ (True ∧ ((True) ∧ ((True) ∧ True) ∧ (.v (.one (.sc (.bool t2))) : Tm) = halterlaw18_PipeSteps.R r ∧ ([] : List Box) = [])))))))))) (by kernel_rfl) ?_)
  refine ⟨trivial, ?_⟩
  refine ⟨trivial, ?_⟩
  refine ⟨trivial, ?_⟩
  refine ⟨fun b1 => ?_, fun b1 => ?_⟩
  · rw [if_neg (of_decide_eq_false b1)] at h
    refine ⟨b1, ?_⟩
    refine ⟨trivial, ?_⟩
    refine ⟨b1, ?_⟩
    refine ⟨trivial, ?_⟩
    refine ⟨b1, ?_⟩
    refine ⟨fun b3 => ?_, fun b3 => ?_⟩
    · rw [if_pos (of_decide_eq_true b3)] at h
      obtain ⟨t4, ht4, h⟩ := of_bind h
      refine ⟨t4, ⟨halterlaw18_sure.fun_ ht4, trivial⟩, ?_⟩
      refine ⟨trivial, ?_⟩
      obtain rfl := Option.some.inj h
      exact ⟨trivial, ⟨trivial, trivial⟩, rfl, rfl⟩
    · rw [if_neg (of_decide_eq_false b3)] at h
      refine ⟨trivial, ?_⟩
      refine ⟨trivial, ?_⟩
      refine ⟨trivial, ?_⟩
      obtain ⟨t5, ht5, h⟩ := of_bind h
      refine ⟨t5, ⟨pipe_Read.fun_ ht5, trivial⟩, ?_⟩
      refine ⟨trivial, ?_⟩
      refine ⟨trivial, ?_⟩
      obtain ⟨t6, ht6, h⟩ := of_bind h
      refine ⟨t6, ⟨halterref18_Read.fun_ ht6, trivial⟩, ?_⟩
      refine ⟨trivial, ?_⟩
      refine ⟨trivial, ?_⟩
      obtain ⟨t7, ht7, h⟩ := of_bind h
      refine ⟨t7, ⟨pipe_Write.fun_ ht7, trivial⟩, ?_⟩
      refine ⟨trivial, ?_⟩
      refine ⟨trivial, ?_⟩
      obtain ⟨t8, ht8, h⟩ := of_bind h
      refine ⟨t8, ⟨halterref18_Write.fun_ ht8, trivial⟩, ?_⟩
      refine ⟨trivial, ?_⟩
      refine ⟨trivial, ?_⟩
      refine ⟨trivial, ?_⟩
      refine ⟨trivial, ?_⟩
      refine ⟨fun b9 => ?_, fun b9 => ?_⟩
      · rw [if_neg (not_not_intro (str_t (not_f b9)))] at h
        refine ⟨trivial, ?_⟩
        refine ⟨b9, ?_⟩
        refine ⟨trivial, ?_⟩
        refine ⟨b9, ?_⟩
        obtain ⟨t10, ht10, h⟩ := of_bind h
        refine ⟨t10, ⟨halterlaw18_same.fun_ ht10, trivial⟩, ?_⟩
        refine ⟨b9, ?_⟩
        refine ⟨b9, ?_⟩
        refine ⟨fun b11 => ?_, fun b11 => ?_⟩
        · rw [if_neg (not_not_intro (not_f b11))] at h
          refine ⟨b11, ?_⟩
          obtain ⟨t12, ht12, h⟩ := of_bind h
          refine ⟨t12, ⟨num.fun_ ht12, trivial⟩, ?_⟩
          refine ⟨b11, ?_⟩
          refine ⟨b11, ?_⟩
          refine ⟨trivial, ?_⟩
          refine ⟨b11, ?_⟩
          refine ⟨fun b13 => ?_, fun b13 => ?_⟩
          · rw [if_neg (not_not_intro (bne_f b13))] at h
            refine ⟨b13, ?_⟩
            refine ⟨b13, ?_⟩
            refine ⟨trivial, ?_⟩
            refine ⟨b13, ?_⟩
            refine ⟨fun b14 => ?_, fun b14 => ?_⟩
            · rw [if_neg (not_not_intro (bne_f b14))] at h
              refine ⟨trivial, ?_⟩
              refine ⟨b14, ?_⟩
              refine ⟨trivial, ?_⟩
              refine ⟨b14, ?_⟩
              obtain ⟨t15, ht15, h⟩ := of_bind h
              refine ⟨t15, ⟨halterlaw18_same.fun_ ht15, trivial⟩, ?_⟩
              refine ⟨b14, ?_⟩
              refine ⟨b14, ?_⟩
              refine ⟨fun b16 => ?_, fun b16 => ?_⟩
              · rw [if_neg (not_not_intro (not_f b16))] at h
                refine ⟨b16, ?_⟩
                obtain ⟨t17, ht17, h⟩ := of_bind h
                refine ⟨t17, ⟨num.fun_ ht17, trivial⟩, ?_⟩
                refine ⟨b16, ?_⟩
                refine ⟨b16, ?_⟩
                refine ⟨trivial, ?_⟩
                refine ⟨b16, ?_⟩
                refine ⟨fun b18 => ?_, fun b18 => ?_⟩
                · rw [if_pos (bne_t b18)] at h
                  refine ⟨trivial, ?_⟩
                  refine ⟨trivial, ?_⟩
                  obtain rfl := Option.some.inj h
                  exact ⟨trivial, ⟨trivial, trivial⟩, rfl, rfl⟩
                · rw [if_neg (not_not_intro (bne_f b18))] at h
                  refine ⟨trivial, ?_⟩
                  refine ⟨trivial, ?_⟩
                  refine ⟨trivial, ?_⟩
                  obtain ⟨t33, ht33, h⟩ := of_bind h
                  refine ⟨⟨trivial, trivial⟩, ?_⟩
                  rcases t33 with t47 | t54
                  · dsimp only at h
                    left
                    refine ⟨t47, Trip.loop FUEL (halterlaw18_PipeSteps.l0_ok t5 t6 t7 t8 a0 a1 a2 FUEL (0 : Int) (.inl t47) ht33), ?_⟩
                    obtain ⟨t48, ht48, h⟩ := of_bind h
                    refine ⟨t48, ?_⟩
                    refine ⟨fun b49 => ?_, fun b49 => ?_⟩
                    · rw [if_pos b49] at h
                      obtain ⟨t50, ht50, h⟩ := of_bind h
                      refine ⟨t50, ?_⟩
                      obtain ⟨t51, ht51, h⟩ := of_bind h
                      refine ⟨t51, ?_⟩
                      refine ⟨fun b52 => ?_, fun b52 => ?_⟩
                      · rw [if_pos (bb_t b52)] at h
                        obtain ⟨t53, ht53, h⟩ := of_bind h
                        refine ⟨t53, ?_⟩
                        refine ⟨trivial, trivial, ⟨halterlaw18_same.fun_ ht48, trivial⟩, ⟨b49, trivial⟩, ⟨b49, ⟨pipe_Check.fun_ ht50, trivial⟩⟩, ⟨b49, trivial⟩, ⟨b49, trivial⟩, ⟨b49, ⟨halterref18_May.fun_ ht51, trivial⟩⟩, ⟨b49, trivial⟩, b49, ⟨b52, ⟨halterlaw18_sure.fun_ ht53, trivial⟩⟩, b52, ?_⟩
                        refine ⟨trivial, ?_⟩
                        obtain rfl := Option.some.inj h
                        exact ⟨trivial, ⟨trivial, trivial⟩, rfl, rfl⟩
                      · rw [if_neg (bb_f b52)] at h
                        refine ⟨trivial, trivial, ⟨halterlaw18_same.fun_ ht48, trivial⟩, ⟨b49, trivial⟩, ⟨b49, ⟨pipe_Check.fun_ ht50, trivial⟩⟩, ⟨b49, trivial⟩, ⟨b49, trivial⟩, ⟨b49, ⟨halterref18_May.fun_ ht51, trivial⟩⟩, ⟨b49, trivial⟩, b49, b52, b52, ?_⟩
                        refine ⟨trivial, ?_⟩
                        obtain rfl := Option.some.inj h
                        exact ⟨trivial, ⟨trivial, trivial⟩, rfl, rfl⟩
                    · rw [if_neg (ff b49)] at h
                      refine ⟨trivial, trivial, ⟨halterlaw18_same.fun_ ht48, trivial⟩, b49, b49, b49, b49, b49, b49, b49, rfl, rfl, ?_⟩
                      refine ⟨trivial, ?_⟩
                      obtain rfl := Option.some.inj h
                      exact ⟨trivial, ⟨trivial, trivial⟩, rfl, rfl⟩
                  · dsimp only at h
                    right
                    refine ⟨t54, Trip.loop FUEL (halterlaw18_PipeSteps.l0_ok t5 t6 t7 t8 a0 a1 a2 FUEL (0 : Int) (.inr t54) ht33), ?_⟩
                    obtain rfl := Option.some.inj h
                    exact ⟨trivial, ⟨trivial, trivial⟩, rfl, rfl⟩
              · rw [if_pos (ff (not_t b16))] at h
                refine ⟨b16, ?_⟩
                refine ⟨b16, ?_⟩
                refine ⟨b16, ?_⟩
                refine ⟨b16, ?_⟩
                refine ⟨rfl, ?_⟩
                refine ⟨trivial, ?_⟩
                refine ⟨trivial, ?_⟩
                obtain rfl := Option.some.inj h
                exact ⟨trivial, ⟨trivial, trivial⟩, rfl, rfl⟩
            · rw [if_pos (bne_t b14)] at h
              refine ⟨b14, ?_⟩
              refine ⟨b14, ?_⟩
              refine ⟨b14, ?_⟩
              refine ⟨b14, ?_⟩
              refine ⟨rfl, ?_⟩
              refine ⟨rfl, ?_⟩
              refine ⟨rfl, ?_⟩
              refine ⟨rfl, ?_⟩
              refine ⟨rfl, ?_⟩
              refine ⟨rfl, ?_⟩
              refine ⟨trivial, ?_⟩
              refine ⟨trivial, ?_⟩
              obtain rfl := Option.some.inj h
              exact ⟨trivial, ⟨trivial, trivial⟩, rfl, rfl⟩
          · rw [if_pos (bne_t b13)] at h
            refine ⟨b13, ?_⟩
            refine ⟨b13, ?_⟩
            refine ⟨b13, ?_⟩
            refine ⟨rfl, ?_⟩
            refine ⟨rfl, ?_⟩
            refine ⟨rfl, ?_⟩
            refine ⟨rfl, ?_⟩
            refine ⟨rfl, ?_⟩
            refine ⟨rfl, ?_⟩
            refine ⟨rfl, ?_⟩
            refine ⟨rfl, ?_⟩
            refine ⟨rfl, ?_⟩
            refine ⟨rfl, ?_⟩
            refine ⟨rfl, ?_⟩
            refine ⟨trivial, ?_⟩
            refine ⟨trivial, ?_⟩
            obtain rfl := Option.some.inj h
            exact ⟨trivial, ⟨trivial, trivial⟩, rfl, rfl⟩
        · rw [if_pos (ff (not_t b11))] at h
          refine ⟨b11, ?_⟩
          refine ⟨b11, ?_⟩
          refine ⟨b11, ?_⟩
          refine ⟨b11, ?_⟩
          refine ⟨rfl, ?_⟩
          refine ⟨rfl, ?_⟩
          refine ⟨rfl, ?_⟩
          refine ⟨rfl, ?_⟩
          refine ⟨rfl, ?_⟩
          refine ⟨rfl, ?_⟩
          refine ⟨rfl, ?_⟩
          refine ⟨rfl, ?_⟩
          refine ⟨rfl, ?_⟩
          refine ⟨rfl, ?_⟩
          refine ⟨rfl, ?_⟩
          refine ⟨rfl, ?_⟩
          refine ⟨rfl, ?_⟩
          refine ⟨rfl, ?_⟩
          refine ⟨rfl, ?_⟩
          refine ⟨trivial, ?_⟩
          refine ⟨trivial, ?_⟩
          obtain rfl := Option.some.inj h
          exact ⟨trivial, ⟨trivial, trivial⟩, rfl, rfl⟩
      · rw [if_pos (str_f (not_t b9))] at h
        refine ⟨b9, ?_⟩
        refine ⟨b9, ?_⟩
        refine ⟨b9, ?_⟩
        refine ⟨b9, ?_⟩
        refine ⟨rfl, ?_⟩
        refine ⟨rfl, ?_⟩
        refine ⟨rfl, ?_⟩
        refine ⟨rfl, ?_⟩
        refine ⟨rfl, ?_⟩
        refine ⟨rfl, ?_⟩
        refine ⟨rfl, ?_⟩
        refine ⟨rfl, ?_⟩
        refine ⟨rfl, ?_⟩
        refine ⟨rfl, ?_⟩
        refine ⟨rfl, ?_⟩
        refine ⟨rfl, ?_⟩
        refine ⟨rfl, ?_⟩
        refine ⟨rfl, ?_⟩
        refine ⟨rfl, ?_⟩
        refine ⟨rfl, ?_⟩
        refine ⟨rfl, ?_⟩
        refine ⟨rfl, ?_⟩
        refine ⟨rfl, ?_⟩
        refine ⟨rfl, ?_⟩
        refine ⟨trivial, ?_⟩
        refine ⟨trivial, ?_⟩
        obtain rfl := Option.some.inj h
        exact ⟨trivial, ⟨trivial, trivial⟩, rfl, rfl⟩
  · rw [if_pos (of_decide_eq_true b1)] at h
    refine ⟨b1, ?_⟩
    refine ⟨b1, ?_⟩
    refine ⟨b1, ?_⟩
    refine ⟨rfl, ?_⟩
    obtain ⟨t2, ht2, h⟩ := of_bind h
    refine ⟨t2, ⟨halterlaw18_sure.fun_ ht2, trivial⟩, ?_⟩
    refine ⟨trivial, ?_⟩
    obtain rfl := Option.some.inj h
    exact ⟨trivial, ⟨trivial, trivial⟩, rfl, rfl⟩
end Go.Proofs.YtlkhfagmpoibaaaDoorGPipeSteps
