/- Printed by gen.py: what functions of the program compute, in plain Lean, and that they do. -/
import Derived.Test.YtlkhfagmpoibaaaDoorE15
import Derived.Test.YtlkhfagmpoibaaaDoorN
set_option linter.unusedVariables false
set_option maxRecDepth 100000
set_option maxHeartbeats 4000000
namespace Go.Proofs.YtlkhfagmpoibaaaDoorGPipeEnds
open Go Go.Proofs.YtlkhfagmpoibaaaDoorE
def tiL : List (Nat × TI) := [
  (3, ⟨1, 8, false, .int .i64, [.c (.sc (.int .i64 (0 : Int)))], some (.int .i64)⟩),
  (4, ⟨1, 1, false, .bool, [.c (.sc (.bool false))], some .bool⟩),
  (5, ⟨1, 1, false, .int .u8, [.c (.sc (.int .u8 (0 : Int)))], some (.int .u8)⟩),
  (9, ⟨1, 16, false, .str, [.c (.sc (.string ByteArray.empty))], some .str⟩),
  (23, ⟨1, 24, false, (.slice 5), [.c (.sc (.slice none 0 0))], some (.sl (.int .u8))⟩),
  (25, ⟨3, 40, true, (.struct [(0, 23), (1, 3), (2, 3)]), [.c (.sc (.slice none 0 0)), .c (.sc (.int .i64 (0 : Int))), .c (.sc (.int .i64 (0 : Int)))], some (.pair (.sl (.int .u8)) (.pair (.int .i64) (.int .i64)))⟩),
  (27, ⟨1, 16, false, .iface, [.c (.err none)], none⟩),
  (53, ⟨1, 8, false, .int .i64, [.c (.sc (.int .i64 (0 : Int)))], some (.int .i64)⟩),
  (58, ⟨1, 24, false, (.slice 23), [.c (.sc (.slice none 0 0))], some (.sl (.sl (.int .u8)))⟩)]
def tabs : List (Nat × IntKind × List Int) := []
noncomputable def cfg : Cfg := ⟨Tryd.prog, 53, [(⟨0, 0, none⟩, .iface 73 (.agg #[.pointer (some ⟨1, 27, none⟩)]))] ++ tabs.flatMap tabG, tiL, [], tabs⟩
theorem cfg_ok : COk cfg := by
  refine ⟨fun p hp => ?_, by kernel_rfl, fun p hp => ?_, fun t ht => ?_, fun x hx y hy => List.mem_append_right _ (List.mem_flatMap.2 ⟨x, hx, hy⟩)⟩
  · simp only [cfg, tiL, List.mem_cons, List.not_mem_nil, or_false] at hp
    rcases hp with rfl | rfl | rfl | rfl | rfl | rfl | rfl | rfl | rfl <;> exact ⟨by kernel_rfl, by kernel_rfl, by kernel_rfl, by kernel_rfl, by kernel_rfl, by kernel_rfl⟩
  · simp only [cfg, tiL, List.mem_cons, List.not_mem_nil, or_false] at hp
    rcases hp with rfl | rfl | rfl | rfl | rfl | rfl | rfl | rfl | rfl <;> intro fs hfs bl hbl
    · cases hfs
    · cases hfs
    · cases hfs
    · cases hfs
    · cases hfs
    · cases hfs
      have e : fieldsZ cfg.L 0 [(0, 23), (1, 3), (2, 3)] = some [[.c (.sc (.slice none 0 0))], [.c (.sc (.int .i64 (0 : Int)))], [.c (.sc (.int .i64 (0 : Int)))]] := by kernel_rfl
      rw [e] at hbl
      cases hbl
      exact (by kernel_rfl : encPs (List.flatten [[.c (.sc (.slice none 0 0))], [.c (.sc (.int .i64 (0 : Int)))], [.c (.sc (.int .i64 (0 : Int)))]]) = encPs [.c (.sc (.slice none 0 0)), .c (.sc (.int .i64 (0 : Int))), .c (.sc (.int .i64 (0 : Int)))])
    · cases hfs
    · cases hfs
    · cases hfs
  · cases ht
def fin : Scr → List Adj
  | .adj l _ => l
  | _ => []
abbrev TY0 : Type := (List Int) × (List Int) × Int × Int × (Option Int)
abbrev TY1 : Type := Int × (List Int) × Int × Int × (Option Int)
/-! the error's number -/
def num.f (a0 : Option Int) : Option Int := some (a0.getD 0)
def num.R (r : Int) : Tm := .v (.one (.sc (.int .i64 r)))
theorem num.fun_ {a0 : Option Int} {r : Int} (h : num.f a0 = some r) : Fun cfg 8 [.one (.err a0)] [] (num.R r) [] := by
  refine Fun.of_below (f := 8) (fn := Tryd.f8) Tryd.func8 rfl (by kernel_rfl) (r := .int .i64 r) (fun X => ⟨⟨rfl, rfl⟩, rfl⟩) fun X vs hE hvs hG => ?_
  obtain ⟨v, us, rfl, hv, rfl⟩ := hvs
  have hv : v = errV X.E a0 := hv.1
  have he : errV cfg.E a0 = YtlkhfagmpoibaaaDoorN.errW a0 := by cases a0 <;> rfl
  rw [hv, hE, he]
  exact YtlkhfagmpoibaaaDoorN.num.calls a0 r X.w (hG _ (List.mem_append_left _ (List.mem_cons_self ..))) h
/-! halter/pipe.Check -/
def pipe_Check.f (a0 : (List Int)) (a1 : Int) (a2 : Int) : Option (Option Int) :=
  if (((List.length a0) : Nat) : Int) > (64 : Int) then
    some (some (22 : Int))
  else
    if a1 < (0 : Int) then
      some (some (22 : Int))
    else
      if a1 > (1048576 : Int) then
        some (some (22 : Int))
      else
        if a2 < (0 : Int) then
          some (some (22 : Int))
        else
          if a2 > (1048576 : Int) then
            some (some (22 : Int))
          else
            some none
def pipe_Check.R (r : (Option Int)) : Tm := .v (.one (.err r))
theorem pipe_Check.fun_ {a0 : (List Int)} {a1 : Int} {a2 : Int} {r : (Option Int)} (h : pipe_Check.f a0 a1 a2 = some r) : Fun cfg 16 [.agg [.c (.fs (.int .u8) a0 false), .c (.sc (.int .i64 a1)), .c (.sc (.int .i64 a2))]] [] (pipe_Check.R r) [] := by
  unfold pipe_Check.f at h
  refine fun_of_run cfg_ok (f := 16) (fn := Tryd.f16) Tryd.func16 rfl (by kernel_rfl) (rs := [.tmp 2]) rfl (nt := 28) rfl (l := fin) (k := (.br (.one true (.one true (.one true (.one true (.one true (.one true (.one true (.one true (.one true (.one true (.one true (.one true (.one true (.one true (.one true (.one true (.adj [] (.adj [] (.adj [.drop 0] .nil))))))))))))))))))) (.one false (.one false (.one false (.br (.one true (.one true (.one true (.one true (.one true (.one true (.one true (.one true (.one true (.one true (.one true (.one true (.adj [] (.adj [] (.adj [.drop 0] .nil))))))))))))))) (.one false (.one false (.one false (.br (.one true (.one true (.one true (.one true (.one true (.one true (.one true (.one true (.adj [] (.adj [] (.adj [.drop 0] .nil))))))))))) (.one false (.one false (.one false (.br (.one true (.one true (.one true (.one true (.adj [] (.adj [] (.adj [.drop 0] .nil))))))) (.one false (.one false (.one false (.br (.adj [] (.adj [] (.adj [.drop 0] .nil))) (.adj [] (.adj [] (.adj [] (.adj [.drop 0] .nil)))))))))))))))))))))) (to_goal (q := (True) ∧ (True) ∧ (True) ∧ (((decide ((((List.length a0) : Nat) : Int) > (64 : Int))) = false → ((decide ((((List.length a0) : Nat) : Int) > (64 : Int))) = false ∧ (True) ∧ ((decide ((((List.length a0) : Nat) : Int) > (64 : Int))) = false ∧ (True) ∧ ((decide ((((List.length a0) : Nat) : Int) > (64 : Int))) = false ∧ (((decide (a1 < (0 : Int))) = false → ((decide (a1 < (0 : Int))) = false ∧ (True) ∧ ((decide (a1 < (0 : Int))) = false ∧ (True) ∧ ((decide (a1 < (0 : Int))) = false ∧ (((decide (a1 > (1048576 : Int))) = false → ((decide (a1 > (1048576 : Int))) = false ∧ (True) ∧ ((decide (a1 > (1048576 : Int))) = false ∧ (True) ∧ ((decide (a1 > (1048576 : Int))) = false ∧ (((decide (a2 < (0 : Int))) = false → ((decide (a2 < (0 : Int))) = false ∧ (True) ∧ ((decide (a2 < (0 : Int))) = false ∧ (True) ∧ ((decide (a2 < (0 : Int))) = false ∧ (((decide (a2 > (1048576 : Int))) = true → (True ∧ (True ∧ ((True) ∧ ((True) ∧ True) ∧ (.v (.one (.err (some (22 : Int)))) : Tm) = pipe_Check.R r ∧ ([] : List Box) = [])))) ∧ ((decide (a2 > (1048576 : Int))) = false → (True ∧ (True ∧ (True ∧ ((True) ∧ ((True) ∧ True) ∧ (.v (.one (.err none)) : Tm) = pipe_Check.R r ∧ ([] : List Box) = [])))))))))) ∧ ((decide (a2 < (0 : Int))) = true → ((decide (a2 < (0 : Int))) = true ∧ ((decide (a2 < (0 : Int))) = true ∧ ((decide (a2 < (0 : Int))) = true ∧ (true = true ∧ (True ∧ (True ∧ ((True) ∧ ((True) ∧ True) ∧ (.v (.one (.err (some (22 : Int)))) : Tm) = pipe_Check.R r ∧ ([] : List Box) = []))))))))))))) ∧ ((decide (a1 > (1048576 : Int))) = true → ((decide (a1 > (1048576 : Int))) = true ∧ ((decide (a1 > (1048576 : Int))) = true ∧ ((decide (a1 > (1048576 : Int))) = true ∧ (true = true ∧ (true = true ∧ (true = true ∧ (true = true ∧ (true = true ∧ (True ∧ (True ∧ ((True) ∧ ((True) ∧ True) ∧ (.v (.one (.err (some (22 : Int)))) : Tm) = pipe_Check.R r ∧ ([] : List Box) = []))))))))))))))))) ∧ ((decide (a1 < (0 : Int))) = true → ((decide (a1 < (0 : Int))) = true ∧ ((decide (a1 < (0 : Int))) = true ∧ ((decide (a1 < (0 : Int))) = true ∧ (true = true ∧ (true = true ∧ (true = true ∧ (true = true ∧ (true = true ∧ (true = true ∧ (true = true ∧ (true = true ∧ (true = true ∧ (True ∧ (True ∧ ((True) ∧ ((True) ∧ True) ∧ (.v (.one (.err (some (22 : Int)))) : Tm) = pipe_Check.R r ∧ ([] : List Box) = []))))))))))))))))))))) ∧ ((decide ((((List.length a0) : Nat) : Int) > (64 : Int))) = true → ((decide ((((List.length a0) : Nat) : Int) > (64 : Int))) = true ∧ ((decide ((((List.length a0) : Nat) : Int) > (64 : Int))) = true ∧ ((decide ((((List.length a0) : Nat) : Int) > (64 : Int))) = true ∧ (true = true ∧ (true = true ∧ (true = true ∧ (true = true ∧ (true = true ∧ (true = true ∧ (true = true ∧ (true = true ∧ (true = true ∧ (true = true ∧ (true = true ∧ (true = true ∧ (true = true ∧ (True ∧ (True ∧ ((True) ∧ ((True) ∧ True) ∧ (.v (.one (.err (some (22 : Int)))) : Tm) = pipe_Check.R r ∧ ([] : List Box) = [])))))))))))))))))))))) (by kernel_rfl) ?_)
  refine ⟨trivial, ?_⟩
  refine ⟨trivial, ?_⟩
  refine ⟨trivial, ?_⟩
  refine ⟨fun b1 => ?_, fun b1 => ?_⟩
  · rw [if_neg (of_decide_eq_false b1)] at h
    refine ⟨b1, ?_⟩
    refine ⟨trivial, ?_⟩
    refine ⟨b1, ?_⟩
    refine ⟨trivial, ?_⟩
    refine ⟨b1, ?_⟩
    refine ⟨fun b2 => ?_, fun b2 => ?_⟩
    · rw [if_neg (of_decide_eq_false b2)] at h
      refine ⟨b2, ?_⟩
      refine ⟨trivial, ?_⟩
      refine ⟨b2, ?_⟩
      refine ⟨trivial, ?_⟩
      refine ⟨b2, ?_⟩
      refine ⟨fun b3 => ?_, fun b3 => ?_⟩
      · rw [if_neg (of_decide_eq_false b3)] at h
        refine ⟨b3, ?_⟩
        refine ⟨trivial, ?_⟩
        refine ⟨b3, ?_⟩
        refine ⟨trivial, ?_⟩
        refine ⟨b3, ?_⟩
        refine ⟨fun b4 => ?_, fun b4 => ?_⟩
        · rw [if_neg (of_decide_eq_false b4)] at h
          refine ⟨b4, ?_⟩
          refine ⟨trivial, ?_⟩
          refine ⟨b4, ?_⟩
          refine ⟨trivial, ?_⟩
          refine ⟨b4, ?_⟩
          refine ⟨fun b5 => ?_, fun b5 => ?_⟩
          · rw [if_pos (of_decide_eq_true b5)] at h
            refine ⟨trivial, ?_⟩
            refine ⟨trivial, ?_⟩
            obtain rfl := Option.some.inj h
            exact ⟨trivial, ⟨trivial, trivial⟩, rfl, rfl⟩
          · rw [if_neg (of_decide_eq_false b5)] at h
            refine ⟨trivial, ?_⟩
            refine ⟨trivial, ?_⟩
            refine ⟨trivial, ?_⟩
            obtain rfl := Option.some.inj h
            exact ⟨trivial, ⟨trivial, trivial⟩, rfl, rfl⟩
        · rw [if_pos (of_decide_eq_true b4)] at h
          refine ⟨b4, ?_⟩
          refine ⟨b4, ?_⟩
          refine ⟨b4, ?_⟩
          refine ⟨rfl, ?_⟩
          refine ⟨trivial, ?_⟩
          refine ⟨trivial, ?_⟩
          obtain rfl := Option.some.inj h
          exact ⟨trivial, ⟨trivial, trivial⟩, rfl, rfl⟩
      · rw [if_pos (of_decide_eq_true b3)] at h
        refine ⟨b3, ?_⟩
        refine ⟨b3, ?_⟩
        refine ⟨b3, ?_⟩
        refine ⟨rfl, ?_⟩
        refine ⟨rfl, ?_⟩
        refine ⟨rfl, ?_⟩
        refine ⟨rfl, ?_⟩
        refine ⟨rfl, ?_⟩
        refine ⟨trivial, ?_⟩
        refine ⟨trivial, ?_⟩
        obtain rfl := Option.some.inj h
        exact ⟨trivial, ⟨trivial, trivial⟩, rfl, rfl⟩
    · rw [if_pos (of_decide_eq_true b2)] at h
      refine ⟨b2, ?_⟩
      refine ⟨b2, ?_⟩
      refine ⟨b2, ?_⟩
      refine ⟨rfl, ?_⟩
      refine ⟨rfl, ?_⟩
      refine ⟨rfl, ?_⟩
      refine ⟨rfl, ?_⟩
      refine ⟨rfl, ?_⟩
      refine ⟨rfl, ?_⟩
      refine ⟨rfl, ?_⟩
      refine ⟨rfl, ?_⟩
      refine ⟨rfl, ?_⟩
      refine ⟨trivial, ?_⟩
      refine ⟨trivial, ?_⟩
      obtain rfl := Option.some.inj h
      exact ⟨trivial, ⟨trivial, trivial⟩, rfl, rfl⟩
  · rw [if_pos (of_decide_eq_true b1)] at h
    refine ⟨b1, ?_⟩
    refine ⟨b1, ?_⟩
    refine ⟨b1, ?_⟩
    refine ⟨rfl, ?_⟩
    refine ⟨rfl, ?_⟩
    refine ⟨rfl, ?_⟩
    refine ⟨rfl, ?_⟩
    refine ⟨rfl, ?_⟩
    refine ⟨rfl, ?_⟩
    refine ⟨rfl, ?_⟩
    refine ⟨rfl, ?_⟩
    refine ⟨rfl, ?_⟩
    refine ⟨rfl, ?_⟩
    refine ⟨rfl, ?_⟩
    refine ⟨rfl, ?_⟩
    refine ⟨rfl, ?_⟩
    refine ⟨trivial, ?_⟩
    refine ⟨trivial, ?_⟩
    obtain rfl := Option.some.inj h
    exact ⟨trivial, ⟨trivial, trivial⟩, rfl, rfl⟩
/-! slices.Grow[[]byte,byte] -/
def slices_Grow_byte_byte.f (a0 : Int) : Option (List Int) :=
  if a0 < (0 : Int) then
    none
  else
    if (IntKind.wrap .i64 (a0 - (0 : Int))) > (0 : Int) then
      if 0 ≤ (IntKind.wrap .i64 (a0 - (0 : Int))) ∧ (IntKind.wrap .i64 (a0 - (0 : Int))) * (1 : Int) ≤ 140737488355328 ∧ (IntKind.wrap .i64 (a0 - (0 : Int))) ≤ 9223372036854775807 then
        if ((0 ≤ (0 : Int) ∧ (0 : Int) ≤ (((Int.toNat (IntKind.wrap .i64 (a0 - (0 : Int)))) : Nat) : Int))) ∧ (True) then
          some ([] : List Int)
        else none
      else none
    else
      some ([] : List Int)
def slices_Grow_byte_byte.R (r : (List Int)) : Tm := .v (.one (.os 0 0 0 1 (List.length r) none))
def slices_Grow_byte_byte.B (a0 : Int) (r : (List Int)) : List Box := [.gro false (.int .u8) r 5]
theorem slices_Grow_byte_byte.fun_ {a0 : Int} {r : (List Int)} (h : slices_Grow_byte_byte.f a0 = some r) : Fun cfg 22 [.one (.sc (.slice none 0 0)), .one (.sc (.int .i64 a0))] [] (slices_Grow_byte_byte.R r) (slices_Grow_byte_byte.B a0 r) := by
  unfold slices_Grow_byte_byte.f at h
  refine fun_of_run cfg_ok (f := 22) (fn := Tryd.f22) Tryd.func22 rfl (by kernel_rfl) (rs := [.tmp 4]) rfl (nt := 27) rfl (l := fin) (k := (.br .nil (.br (.d (.b false) (.adj [] (.adj [] (.adj [.cut 0 0] .nil)))) (.adj [] (.adj [] (.adj [] (.adj [.nilGro 0 (.int .u8) 5] .nil))))))) (to_goal (q := (True) ∧ (((decide (a0 < (0 : Int))) = true → False) ∧ ((decide (a0 < (0 : Int))) = false → (True) ∧ (True) ∧ (True) ∧ (True) ∧ (True) ∧ (((decide ((IntKind.wrap .i64 (a0 - (0 : Int))) > (0 : Int))) = true → (True) ∧ (((0 ≤ (0 : Int) ∧ (0 : Int) ≤ ((0 : Nat) : Int))) ∧ (True)) ∧ (0 ≤ (IntKind.wrap .i64 (a0 - (0 : Int))) ∧ (IntKind.wrap .i64 (a0 - (0 : Int))) * (1 : Int) ≤ 140737488355328 ∧ (IntKind.wrap .i64 (a0 - (0 : Int))) ≤ 9223372036854775807) ∧ (True) ∧ (((0 ≤ (0 : Int) ∧ (0 : Int) ≤ (((Int.toNat (IntKind.wrap .i64 (a0 - (0 : Int)))) : Nat) : Int))) ∧ (True)) ∧ (True ∧ (True ∧ ((True) ∧ ((True) ∧ True) ∧ (.v (.one (.os 0 0 0 1 0 none)) : Tm) = slices_Grow_byte_byte.R r ∧ ([.gro false (.int .u8) ([] : List Int) 5] : List Box) = slices_Grow_byte_byte.B a0 r)))) ∧ ((decide ((IntKind.wrap .i64 (a0 - (0 : Int))) > (0 : Int))) = false → (True ∧ (True ∧ (True ∧ ((True) ∧ ((True) ∧ True) ∧ (.v (.one (.os 0 0 0 1 0 none)) : Tm) = slices_Grow_byte_byte.R r ∧ ([.gro false (.int .u8) ([] : List Int) 5] : List Box) = slices_Grow_byte_byte.B a0 r))))))))) (by kernel_rfl) ?_)
  refine ⟨trivial, ?_⟩
  refine ⟨fun b1 => ?_, fun b1 => ?_⟩
  · rw [if_pos (of_decide_eq_true b1)] at h
    cases h
  · rw [if_neg (of_decide_eq_false b1)] at h
    refine ⟨trivial, ?_⟩
    refine ⟨trivial, ?_⟩
    refine ⟨trivial, ?_⟩
    refine ⟨trivial, ?_⟩
    refine ⟨trivial, ?_⟩
    refine ⟨fun b2 => ?_, fun b2 => ?_⟩
    · rw [if_pos (of_decide_eq_true b2)] at h
      refine ⟨trivial, ?_⟩
      refine ⟨⟨(by decide), trivial⟩, ?_⟩
      obtain ⟨g4, h⟩ := of_guard h
      refine ⟨g4, ?_⟩
      refine ⟨trivial, ?_⟩
      obtain ⟨g3, h⟩ := of_guard h
      refine ⟨g3, ?_⟩
      refine ⟨trivial, ?_⟩
      refine ⟨trivial, ?_⟩
      obtain rfl := Option.some.inj h
      exact ⟨trivial, ⟨trivial, trivial⟩, rfl, rfl⟩
    · rw [if_neg (of_decide_eq_false b2)] at h
      refine ⟨trivial, ?_⟩
      refine ⟨trivial, ?_⟩
      refine ⟨trivial, ?_⟩
      obtain rfl := Option.some.inj h
      exact ⟨trivial, ⟨trivial, trivial⟩, rfl, rfl⟩
/-! slices.Concat[[]byte,byte] -/
def slices_Concat_byte_byte.l0 (a0 : (List (List Int))) : Nat → Int → Int → Option Int
  | 0, _, _ => none
  | n + 1, x1, x2 =>
    if x2 < (((List.length a0) : Nat) : Int) then
      if 0 ≤ x2 ∧ x2 < (((List.length a0) : Nat) : Int) then
        if (IntKind.wrap .i64 (x1 + (((List.length (List.getD a0 (Int.toNat x2) ([] : List Int))) : Nat) : Int))) < (0 : Int) then
          none
        else
          slices_Concat_byte_byte.l0 a0 n (IntKind.wrap .i64 (x1 + (((List.length (List.getD a0 (Int.toNat x2) ([] : List Int))) : Nat) : Int))) (IntKind.wrap .i64 (x2 + (1 : Int)))
      else none
    else
      some x1
def slices_Concat_byte_byte.l0_S (a0 : (List (List Int))) (x1 : Int) (x2 : Int) : St := ⟨[.v (.one (.fs (.sl (.int .u8)) a0 false)), .any, .any, .v (.one (.sc (.int .i64 x1))), .any, .any, .any, .any, .any, .v (.one (.fs (.sl (.int .u8)) a0 false)), .v (.one (.sc (.int .i64 (((List.length a0) : Nat) : Int)))), .v (.one (.sc (.int .i64 x2))), .any, .any, .any, .any, .any, .any, .any, .any, .any, .any, .any, .any, .any, .any, .any, .any, .any, .any, .any, .any, .any, .any, .any, .any], [], 0⟩
def slices_Concat_byte_byte.l0_Q (a0 : (List (List Int))) (t : Int) : Exit → St → Prop := fun e s => e = (.exit 0) ∧ s = ⟨[.v (.one (.fs (.sl (.int .u8)) a0 false)), .any, .any, .v (.one (.sc (.int .i64 t))), .any, .any, .any, .any, .any, .any, .any, .any, .any, .any, .any, .any, .any, .any, .any, .any, .any, .any, .any, .any, .any, .any, .any, .any, .any, .any, .any, .any, .any, .any, .any, .any], [], 0⟩
theorem slices_Concat_byte_byte.l0_ok (a0 : (List (List Int))) : ∀ (n : Nat) (x1 : Int) (x2 : Int) (r : Int), slices_Concat_byte_byte.l0 a0 n x1 x2 = some r → TripN cfg (cpath (Tryd.f19.body.getD .skip) [1, 1, 0, 1, 0, 0]) n (slices_Concat_byte_byte.l0_S a0 x1 x2) (slices_Concat_byte_byte.l0_Q a0 r) := by
  intro n
  induction n with
  | zero => intro x1 x2 r h; cases h
  | succ n ih =>
    intro x1 x2 r h
    rw [slices_Concat_byte_byte.l0] at h
    refine TripN.of_run cfg_ok (k := (.br (.br .nil (.adj [] (.adj [] (.adj [.keep [0, 3, 9, 10, 11], .drop 0] .nil)))) (.adj [.keep [0, 3], .drop 0] .nil))) (to_goal (q := (True) ∧ (((decide (x2 < (((List.length a0) : Nat) : Int))) = true → (0 ≤ x2 ∧ x2 < (((List.length a0) : Nat) : Int)) ∧ (True) ∧ (True) ∧ (True) ∧ (True) ∧ (((decide ((IntKind.wrap .i64 (x1 + (((List.length (List.getD a0 (Int.toNat x2) ([] : List Int))) : Nat) : Int))) < (0 : Int))) = true → False) ∧ ((decide ((IntKind.wrap .i64 (x1 + (((List.length (List.getD a0 (Int.toNat x2) ([] : List Int))) : Nat) : Int))) < (0 : Int))) = false → (True ∧ (True ∧ (True) ∧ (((True) ∧ (True) ∧ True) ∧ TripN cfg (cpath (Tryd.f19.body.getD .skip) [1, 1, 0, 1, 0, 0]) n (slices_Concat_byte_byte.l0_S a0 (IntKind.wrap .i64 (x1 + (((List.length (List.getD a0 (Int.toNat x2) ([] : List Int))) : Nat) : Int))) (IntKind.wrap .i64 (x2 + (1 : Int)))) (slices_Concat_byte_byte.l0_Q a0 r))))))) ∧ ((decide (x2 < (((List.length a0) : Nat) : Int))) = false → (((True) ∧ (True) ∧ True) ∧ slices_Concat_byte_byte.l0_Q a0 r (.exit 0) ⟨[.v (.one (.fs (.sl (.int .u8)) a0 false)), .any, .any, .v (.one (.sc (.int .i64 x1))), .any, .any, .any, .any, .any, .any, .any, .any, .any, .any, .any, .any, .any, .any, .any, .any, .any, .any, .any, .any, .any, .any, .any, .any, .any, .any, .any, .any, .any, .any, .any, .any], [], 0⟩)))) (by kernel_rfl) ?_)
    refine ⟨trivial, ?_⟩
    refine ⟨fun b8 => ?_, fun b8 => ?_⟩
    · rw [if_pos (of_decide_eq_true b8)] at h
      obtain ⟨g10, h⟩ := of_guard h
      refine ⟨g10, ?_⟩
      refine ⟨trivial, ?_⟩
      refine ⟨trivial, ?_⟩
      refine ⟨trivial, ?_⟩
      refine ⟨trivial, ?_⟩
      refine ⟨fun b9 => ?_, fun b9 => ?_⟩
      · rw [if_pos (of_decide_eq_true b9)] at h
        cases h
      · rw [if_neg (of_decide_eq_false b9)] at h
        refine ⟨trivial, ?_⟩
        refine ⟨trivial, ?_⟩
        refine ⟨trivial, ?_⟩
        exact ⟨⟨trivial, trivial, trivial⟩, ih (IntKind.wrap .i64 (x1 + (((List.length (List.getD a0 (Int.toNat x2) ([] : List Int))) : Nat) : Int))) (IntKind.wrap .i64 (x2 + (1 : Int))) r h⟩
    · rw [if_neg (of_decide_eq_false b8)] at h
      obtain rfl := Option.some.inj h
      exact ⟨⟨trivial, trivial, trivial⟩, rfl, rfl⟩
def slices_Concat_byte_byte.l1 (a0 : (List (List Int))) : Nat → (List Int) → Int → Option (List Int)
  | 0, _, _ => none
  | n + 1, x18, x19 =>
    if x19 < (((List.length a0) : Nat) : Int) then
      if 0 ≤ x19 ∧ x19 < (((List.length a0) : Nat) : Int) then
        if True ∧ 0 = 0 ∧ (List.length x18) = (List.length x18) ∧ (((List.length x18) + (List.length (List.getD a0 (Int.toNat x19) ([] : List Int)))) * 1 ≤ 140737488355328 ∧ (List.length x18) + (List.length (List.getD a0 (Int.toNat x19) ([] : List Int))) ≤ 9223372036854775807) then
          slices_Concat_byte_byte.l1 a0 n (x18 ++ (List.getD a0 (Int.toNat x19) ([] : List Int))) (IntKind.wrap .i64 (x19 + (1 : Int)))
        else none
      else none
    else
      some x18
def slices_Concat_byte_byte.l1_S (a0 : (List (List Int))) (x18 : List Int) (x19 : Int) : St := ⟨[.any, .any, .any, .any, .any, .any, .v (.one (.os 0 0 0 1 (List.length x18) none)), .any, .any, .any, .any, .any, .any, .any, .any, .any, .any, .any, .any, .any, .any, .any, .any, .any, .any, .v (.one (.fs (.sl (.int .u8)) a0 false)), .v (.one (.sc (.int .i64 (((List.length a0) : Nat) : Int)))), .v (.one (.sc (.int .i64 x19))), .any, .any, .any, .any, .any, .any, .any, .any], [.gro false (.int .u8) x18 5], 0⟩
def slices_Concat_byte_byte.l1_Q (a0 : (List (List Int))) (t : (List Int)) : Exit → St → Prop := fun e s => e = (.exit 2) ∧ s = ⟨[.any, .any, .any, .any, .any, .any, .v (.one (.os 0 0 0 1 (List.length t) none)), .any, .any, .any, .any, .any, .any, .any, .any, .any, .any, .any, .any, .any, .any, .any, .any, .any, .any, .any, .any, .any, .any, .any, .any, .any, .any, .any, .any, .any], [.gro false (.int .u8) t 5], 0⟩
theorem slices_Concat_byte_byte.l1_ok (a0 : (List (List Int))) : ∀ (n : Nat) (x18 : List Int) (x19 : Int) (r : (List Int)), slices_Concat_byte_byte.l1 a0 n x18 x19 = some r → TripN cfg (cpath (Tryd.f19.body.getD .skip) [1, 1, 1, 1, 0, 1, 0, 0]) n (slices_Concat_byte_byte.l1_S a0 x18 x19) (slices_Concat_byte_byte.l1_Q a0 r) := by
  intro n
  induction n with
  | zero => intro x18 x19 r h; cases h
  | succ n ih =>
    intro x18 x19 r h
    rw [slices_Concat_byte_byte.l1] at h
    refine TripN.of_run cfg_ok (k := (.br (.d (.b false) (.adj [] (.adj [.keep [6, 25, 26, 27], .drop 1] .nil))) (.adj [.keep [6], .drop 1] .nil))) (to_goal (q := (True) ∧ (((decide (x19 < (((List.length a0) : Nat) : Int))) = true → (0 ≤ x19 ∧ x19 < (((List.length a0) : Nat) : Int)) ∧ (True) ∧ (True ∧ 0 = 0 ∧ (List.length x18) = (List.length x18) ∧ (((List.length x18) + (List.length (List.getD a0 (Int.toNat x19) ([] : List Int)))) * 1 ≤ 140737488355328 ∧ (List.length x18) + (List.length (List.getD a0 (Int.toNat x19) ([] : List Int))) ≤ 9223372036854775807)) ∧ (True ∧ (True) ∧ (((True) ∧ (True) ∧ True) ∧ TripN cfg (cpath (Tryd.f19.body.getD .skip) [1, 1, 1, 1, 0, 1, 0, 0]) n (slices_Concat_byte_byte.l1_S a0 (x18 ++ (List.getD a0 (Int.toNat x19) ([] : List Int))) (IntKind.wrap .i64 (x19 + (1 : Int)))) (slices_Concat_byte_byte.l1_Q a0 r)))) ∧ ((decide (x19 < (((List.length a0) : Nat) : Int))) = false → (((True) ∧ (True) ∧ True) ∧ slices_Concat_byte_byte.l1_Q a0 r (.exit 2) ⟨[.any, .any, .any, .any, .any, .any, .v (.one (.os 0 0 0 1 (List.length x18) none)), .any, .any, .any, .any, .any, .any, .any, .any, .any, .any, .any, .any, .any, .any, .any, .any, .any, .any, .any, .any, .any, .any, .any, .any, .any, .any, .any, .any, .any], [.gro false (.int .u8) x18 5], 0⟩)))) (by kernel_rfl) ?_)
    refine ⟨trivial, ?_⟩
    refine ⟨fun b25 => ?_, fun b25 => ?_⟩
    · rw [if_pos (of_decide_eq_true b25)] at h
      obtain ⟨g27, h⟩ := of_guard h
      refine ⟨g27, ?_⟩
      refine ⟨trivial, ?_⟩
      obtain ⟨g26, h⟩ := of_guard h
      refine ⟨g26, ?_⟩
      refine ⟨trivial, ?_⟩
      refine ⟨trivial, ?_⟩
      exact ⟨⟨trivial, trivial, trivial⟩, ih (x18 ++ (List.getD a0 (Int.toNat x19) ([] : List Int))) (IntKind.wrap .i64 (x19 + (1 : Int))) r h⟩
    · rw [if_neg (of_decide_eq_false b25)] at h
      obtain rfl := Option.some.inj h
      exact ⟨⟨trivial, trivial, trivial⟩, rfl, rfl⟩
def slices_Concat_byte_byte.f (a0 : (List (List Int))) : Option (List Int) :=
  (slices_Concat_byte_byte.l0 a0 FUEL (0 : Int) (0 : Int)).bind fun t7 =>
  (slices_Grow_byte_byte.f t7).bind fun t13 =>
  (slices_Concat_byte_byte.l1 a0 FUEL t13 (0 : Int)).bind fun t24 =>
  some t24
def slices_Concat_byte_byte.R (r : (List Int)) : Tm := .v (.one (.fs (.int .u8) r false))
theorem slices_Concat_byte_byte.fun_ {a0 : (List (List Int))} {r : (List Int)} (h : slices_Concat_byte_byte.f a0 = some r) : Fun cfg 19 [.one (.fs (.sl (.int .u8)) a0 false)] [] (slices_Concat_byte_byte.R r) [] := by
  unfold slices_Concat_byte_byte.f at h
  refine fun_of_run cfg_ok (f := 19) (fn := Tryd.f19) Tryd.func19 rfl (by kernel_rfl) (rs := [.tmp 2]) rfl (nt := 36) rfl (l := fin) (k := (.adj [] (.adj [] (.adj [] (.adj [] (.adj [.keep [0, 3, 9, 10, 11]] (.sub (Int) (fun _ => (.exit 0)) (fun t7 => ⟨[.v (.one (.fs (.sl (.int .u8)) a0 false)), .any, .any, .v (.one (.sc (.int .i64 t7))), .any, .any, .any, .any, .any, .any, .any, .any, .any, .any, .any, .any, .any, .any, .any, .any, .any, .any, .any, .any, .any, .any, .any, .any, .any, .any, .any, .any, .any, .any, .any, .any], [], 0⟩) (fun t7 => (.callR true [] [] ((List Int)) (fun t13 => (slices_Grow_byte_byte.R t13)) (fun t13 => (slices_Grow_byte_byte.B t7 t13)) (fun t13 => (.adj [] (.adj [] (.adj [.keep [6, 25, 26, 27]] (.sub ((List Int)) (fun _ => (.exit 2)) (fun t24 => ⟨[.any, .any, .any, .any, .any, .any, .v (.one (.os 0 0 0 1 (List.length t24) none)), .any, .any, .any, .any, .any, .any, .any, .any, .any, .any, .any, .any, .any, .any, .any, .any, .any, .any, .any, .any, .any, .any, .any, .any, .any, .any, .any, .any, .any], [.gro false (.int .u8) t24 5], 0⟩) (fun t24 => (.adj [] (.adj [] (.adj [.co 0 true [], .drop 0] .nil)))))))))))))))))) (to_goal (q := (True ∧ (True ∧ (True ∧ (True) ∧ (True ∧ (((True) ∧ True) ∧ (∃ t7 : Int, Trip cfg (.loop (cpath (Tryd.f19.body.getD .skip) [1, 1, 0, 1, 0, 0])) ⟨[.v (.one (.fs (.sl (.int .u8)) a0 false)), .any, .any, .v (.one (.sc (.int .i64 (0 : Int)))), .any, .any, .any, .any, .any, .v (.one (.fs (.sl (.int .u8)) a0 false)), .v (.one (.sc (.int .i64 (((List.length a0) : Nat) : Int)))), .v (.one (.sc (.int .i64 (0 : Int)))), .any, .any, .any, .any, .any, .any, .any, .any, .any, .any, .any, .any, .any, .any, .any, .any, .any, .any, .any, .any, .any, .any, .any, .any], [], 0⟩ (fun e s => e = (.exit 0) ∧ s = ⟨[.v (.one (.fs (.sl (.int .u8)) a0 false)), .any, .any, .v (.one (.sc (.int .i64 t7))), .any, .any, .any, .any, .any, .any, .any, .any, .any, .any, .any, .any, .any, .any, .any, .any, .any, .any, .any, .any, .any, .any, .any, .any, .any, .any, .any, .any, .any, .any, .any, .any], [], 0⟩) ∧ (∃ t13 : (List Int), (Fun cfg 22 [.one (.sc (.slice none 0 0)), .one (.sc (.int .i64 t7))] [] (slices_Grow_byte_byte.R t13) (slices_Grow_byte_byte.B t7 t13) ∧ True) ∧ (True ∧ (True) ∧ (True ∧ (((True) ∧ True) ∧ (∃ t24 : (List Int), Trip cfg (.loop (cpath (Tryd.f19.body.getD .skip) [1, 1, 1, 1, 0, 1, 0, 0])) ⟨[.any, .any, .any, .any, .any, .any, .v (.one (.os 0 0 0 1 (List.length t13) none)), .any, .any, .any, .any, .any, .any, .any, .any, .any, .any, .any, .any, .any, .any, .any, .any, .any, .any, .v (.one (.fs (.sl (.int .u8)) a0 false)), .v (.one (.sc (.int .i64 (((List.length a0) : Nat) : Int)))), .v (.one (.sc (.int .i64 (0 : Int)))), .any, .any, .any, .any, .any, .any, .any, .any], [.gro false (.int .u8) t13 5], 0⟩ (fun e s => e = (.exit 2) ∧ s = ⟨[.any, .any, .any, .any, .any, .any, .v (.one (.os 0 0 0 1 (List.length t24) none)), .any, .any, .any, .any, .any, .any, .any, .any, .any, .any, .any, .any, .any, .any, .any, .any, .any, .any, .any, .any, .any, .any, .any, .any, .any, .any, .any, .any, .any], [.gro false (.int .u8) t24 5], 0⟩) ∧ (True ∧ (True ∧ ((True) ∧ ((((0 = 0 ∧ (List.length t24) = (List.length t24))) ∧ True) ∧ (True) ∧ True) ∧ (.v (.one (.fs (.int .u8) t24 false)) : Tm) = slices_Concat_byte_byte.R r ∧ ([] : List Box) = []))))))))))))))) (by kernel_rfl) ?_)
  refine ⟨trivial, ?_⟩
  refine ⟨trivial, ?_⟩
  refine ⟨trivial, ?_⟩
  refine ⟨trivial, ?_⟩
  refine ⟨trivial, ?_⟩
  obtain ⟨t7, ht7, h⟩ := of_bind h
  refine ⟨⟨trivial, trivial⟩, t7, Trip.loop FUEL (slices_Concat_byte_byte.l0_ok a0 FUEL (0 : Int) (0 : Int) t7 ht7), ?_⟩
  obtain ⟨t13, ht13, h⟩ := of_bind h
  refine ⟨t13, ⟨slices_Grow_byte_byte.fun_ ht13, trivial⟩, ?_⟩
  refine ⟨trivial, ?_⟩
  refine ⟨trivial, ?_⟩
  refine ⟨trivial, ?_⟩
  obtain ⟨t24, ht24, h⟩ := of_bind h
  refine ⟨⟨trivial, trivial⟩, t24, Trip.loop FUEL (slices_Concat_byte_byte.l1_ok a0 FUEL t13 (0 : Int) t24 ht24), ?_⟩
  refine ⟨trivial, ?_⟩
  refine ⟨trivial, ?_⟩
  obtain rfl := Option.some.inj h
  exact ⟨trivial, ⟨⟨⟨rfl, rfl⟩, trivial⟩, trivial, trivial⟩, rfl, rfl⟩
/-! halter/pipe.Write -/
def pipe_Write.f (a0 : (List Int)) (a1 : Int) (a2 : Int) (a3 : (List Int)) : Option (TY1) :=
  (pipe_Check.f a0 a1 a2).bind fun t1 =>
  if ¬ (t1 = none) then
    some ((0 : Int), ([] : List Int), (0 : Int), (0 : Int), (some (22 : Int)))
  else
    if a1 = (0 : Int) then
      some ((0 : Int), ([] : List Int), (0 : Int), (0 : Int), (some (32 : Int)))
    else
      if (((List.length a3) : Nat) : Int) > (0 : Int) then
        if (IntKind.wrap .i64 ((64 : Int) - (((List.length a0) : Nat) : Int))) = (0 : Int) then
          some ((0 : Int), ([] : List Int), (0 : Int), (0 : Int), (some (11 : Int)))
        else
          if 0 ≤ (if (IntKind.wrap .i64 ((64 : Int) - (((List.length a0) : Nat) : Int))) < (((List.length a3) : Nat) : Int) then (IntKind.wrap .i64 ((64 : Int) - (((List.length a0) : Nat) : Int))) else (((List.length a3) : Nat) : Int)) ∧ (if (IntKind.wrap .i64 ((64 : Int) - (((List.length a0) : Nat) : Int))) < (((List.length a3) : Nat) : Int) then (IntKind.wrap .i64 ((64 : Int) - (((List.length a0) : Nat) : Int))) else (((List.length a3) : Nat) : Int)) ≤ (((List.length a3) : Nat) : Int) then
            (slices_Concat_byte_byte.f [a0, (List.take (Int.toNat (if (IntKind.wrap .i64 ((64 : Int) - (((List.length a0) : Nat) : Int))) < (((List.length a3) : Nat) : Int) then (IntKind.wrap .i64 ((64 : Int) - (((List.length a0) : Nat) : Int))) else (((List.length a3) : Nat) : Int))) a3)]).bind fun t7 =>
            some ((if (IntKind.wrap .i64 ((64 : Int) - (((List.length a0) : Nat) : Int))) < (((List.length a3) : Nat) : Int) then (IntKind.wrap .i64 ((64 : Int) - (((List.length a0) : Nat) : Int))) else (((List.length a3) : Nat) : Int)), t7, a1, a2, none)
          else none
      else
        if 0 ≤ (if (IntKind.wrap .i64 ((64 : Int) - (((List.length a0) : Nat) : Int))) < (((List.length a3) : Nat) : Int) then (IntKind.wrap .i64 ((64 : Int) - (((List.length a0) : Nat) : Int))) else (((List.length a3) : Nat) : Int)) ∧ (if (IntKind.wrap .i64 ((64 : Int) - (((List.length a0) : Nat) : Int))) < (((List.length a3) : Nat) : Int) then (IntKind.wrap .i64 ((64 : Int) - (((List.length a0) : Nat) : Int))) else (((List.length a3) : Nat) : Int)) ≤ (((List.length a3) : Nat) : Int) then
          (slices_Concat_byte_byte.f [a0, (List.take (Int.toNat (if (IntKind.wrap .i64 ((64 : Int) - (((List.length a0) : Nat) : Int))) < (((List.length a3) : Nat) : Int) then (IntKind.wrap .i64 ((64 : Int) - (((List.length a0) : Nat) : Int))) else (((List.length a3) : Nat) : Int))) a3)]).bind fun t9 =>
          some ((if (IntKind.wrap .i64 ((64 : Int) - (((List.length a0) : Nat) : Int))) < (((List.length a3) : Nat) : Int) then (IntKind.wrap .i64 ((64 : Int) - (((List.length a0) : Nat) : Int))) else (((List.length a3) : Nat) : Int)), t9, a1, a2, none)
        else none
def pipe_Write.R (r : TY1) : Tm := .tup [.one (.sc (.int .i64 r.1)), .agg [.c (.fs (.int .u8) r.2.1 false), .c (.sc (.int .i64 r.2.2.1)), .c (.sc (.int .i64 r.2.2.2.1))], .one (.err r.2.2.2.2)]
theorem pipe_Write.fun_ {a0 : (List Int)} {a1 : Int} {a2 : Int} {a3 : (List Int)} {r : TY1} (h : pipe_Write.f a0 a1 a2 a3 = some r) : Fun cfg 7 [.agg [.c (.fs (.int .u8) a0 false), .c (.sc (.int .i64 a1)), .c (.sc (.int .i64 a2))], .one (.fs (.int .u8) a3 false)] [] (pipe_Write.R r) [] := by
  unfold pipe_Write.f at h
  refine fun_of_run cfg_ok (f := 7) (fn := Tryd.f7) Tryd.func7 rfl (by kernel_rfl) (rs := [.tmp 4, .cell 5 25, .tmp 6]) rfl (nt := 49) rfl (l := fin) (k := (.call true [] ((Option Int)) (fun t1 => pipe_Check.R t1) (fun t1 => (.br (.adj [] (.adj [] (.adj [.co 1 true [(.int .u8)], .drop 0] .nil))) (.br (.adj [] (.adj [] (.adj [.co 1 true [(.int .u8)], .drop 0] .nil))) (.br (.one true (.one true (.br (.adj [] (.adj [] (.adj [.co 1 true [(.int .u8)], .drop 0] .nil))) (.ex ((List Int)) (fun t7 => (.dr [(0, dN), (2, dN), (3, dN), (1, dN), (4, dN), (5, dN), (6, ⟨none, .callR true [] [] (slices_Concat_byte_byte.R t7) [], false⟩), (7, dN), (8, dN)] (.dr [(0, dN), (2, dN), (1, dN), (3, dN), (4, dN)] (.adj [] (.adj [.drop 0] .nil))))))))) (.one false (.one false (.one false (.ex ((List Int)) (fun t9 => (.dr [(0, dN), (2, dN), (3, dN), (1, dN), (4, dN), (5, dN), (6, ⟨none, .callR true [] [] (slices_Concat_byte_byte.R t9) [], false⟩), (7, dN), (8, dN)] (.dr [(0, dN), (2, dN), (1, dN), (3, dN), (4, dN)] (.adj [] (.adj [.drop 0] .nil))))))))))))))) (to_goal (q := (True) ∧ (True) ∧ (True) ∧ (True) ∧ (∃ t1 : (Option Int), (Fun cfg 16 [.agg [.c (.fs (.int .u8) a0 false), .c (.sc (.int .i64 a1)), .c (.sc (.int .i64 a2))]] [] (pipe_Check.R t1) [] ∧ True) ∧ (True) ∧ (((!(Option.isNone t1)) = true → (True ∧ (True) ∧ (True ∧ (((True) ∧ True) ∧ ((True) ∧ (True) ∧ True) ∧ (.tup [.one (.sc (.int .i64 (0 : Int))), .agg [.c (.fs (.int .u8) ([] : List Int) false), .c (.sc (.int .i64 (0 : Int))), .c (.sc (.int .i64 (0 : Int)))], .one (.err (some (22 : Int)))] : Tm) = pipe_Write.R r ∧ ([] : List Box) = [])))) ∧ ((!(Option.isNone t1)) = false → (True) ∧ (True) ∧ (((a1 == (0 : Int)) = true → (True ∧ (True) ∧ (True ∧ (((True) ∧ True) ∧ ((True) ∧ (True) ∧ True) ∧ (.tup [.one (.sc (.int .i64 (0 : Int))), .agg [.c (.fs (.int .u8) ([] : List Int) false), .c (.sc (.int .i64 (0 : Int))), .c (.sc (.int .i64 (0 : Int)))], .one (.err (some (32 : Int)))] : Tm) = pipe_Write.R r ∧ ([] : List Box) = [])))) ∧ ((a1 == (0 : Int)) = false → (True) ∧ (True) ∧ (((decide ((((List.length a3) : Nat) : Int) > (0 : Int))) = true → ((decide ((((List.length a3) : Nat) : Int) > (0 : Int))) = true ∧ (True) ∧ ((decide ((((List.length a3) : Nat) : Int) > (0 : Int))) = true ∧ ((((IntKind.wrap .i64 ((64 : Int) - (((List.length a0) : Nat) : Int))) == (0 : Int)) = true → (True ∧ (True) ∧ (True ∧ (((True) ∧ True) ∧ ((True) ∧ (True) ∧ True) ∧ (.tup [.one (.sc (.int .i64 (0 : Int))), .agg [.c (.fs (.int .u8) ([] : List Int) false), .c (.sc (.int .i64 (0 : Int))), .c (.sc (.int .i64 (0 : Int)))], .one (.err (some (11 : Int)))] : Tm) = pipe_Write.R r ∧ ([] : List Box) = [])))) ∧ (((IntKind.wrap .i64 ((64 : Int) - (((List.length a0) : Nat) : Int))) == (0 : Int)) = false → (True) ∧ (True) ∧ (∃ t7 : (List Int), (True) ∧ (0 ≤ (if (IntKind.wrap .i64 ((64 : Int) - (((List.length a0) : Nat) : Int))) < (((List.length a3) : Nat) : Int) then (IntKind.wrap .i64 ((64 : Int) - (((List.length a0) : Nat) : Int))) else (((List.length a3) : Nat) : Int)) ∧ (if (IntKind.wrap .i64 ((64 : Int) - (((List.length a0) : Nat) : Int))) < (((List.length a3) : Nat) : Int) then (IntKind.wrap .i64 ((64 : Int) - (((List.length a0) : Nat) : Int))) else (((List.length a3) : Nat) : Int)) ≤ (((List.length a3) : Nat) : Int)) ∧ ((0 = 0 ∧ 2 = 2) ∧ Fun cfg 19 [.one (.fs (.sl (.int .u8)) [a0, (List.take (Int.toNat (if (IntKind.wrap .i64 ((64 : Int) - (((List.length a0) : Nat) : Int))) < (((List.length a3) : Nat) : Int) then (IntKind.wrap .i64 ((64 : Int) - (((List.length a0) : Nat) : Int))) else (((List.length a3) : Nat) : Int))) a3)] false)] [] (slices_Concat_byte_byte.R t7) [] ∧ True) ∧ (True) ∧ (True) ∧ (True) ∧ (True ∧ (((True) ∧ True) ∧ ((True) ∧ True) ∧ (.tup [.one (.sc (.int .i64 (if (IntKind.wrap .i64 ((64 : Int) - (((List.length a0) : Nat) : Int))) < (((List.length a3) : Nat) : Int) then (IntKind.wrap .i64 ((64 : Int) - (((List.length a0) : Nat) : Int))) else (((List.length a3) : Nat) : Int)))), .agg [.c (.fs (.int .u8) t7 false), .c (.sc (.int .i64 a1)), .c (.sc (.int .i64 a2))], .one (.err none)] : Tm) = pipe_Write.R r ∧ ([] : List Box) = [])))))))) ∧ ((decide ((((List.length a3) : Nat) : Int) > (0 : Int))) = false → ((decide ((((List.length a3) : Nat) : Int) > (0 : Int))) = false ∧ ((decide ((((List.length a3) : Nat) : Int) > (0 : Int))) = false ∧ (false = false ∧ (True) ∧ (True) ∧ (∃ t9 : (List Int), (True) ∧ (0 ≤ (if (IntKind.wrap .i64 ((64 : Int) - (((List.length a0) : Nat) : Int))) < (((List.length a3) : Nat) : Int) then (IntKind.wrap .i64 ((64 : Int) - (((List.length a0) : Nat) : Int))) else (((List.length a3) : Nat) : Int)) ∧ (if (IntKind.wrap .i64 ((64 : Int) - (((List.length a0) : Nat) : Int))) < (((List.length a3) : Nat) : Int) then (IntKind.wrap .i64 ((64 : Int) - (((List.length a0) : Nat) : Int))) else (((List.length a3) : Nat) : Int)) ≤ (((List.length a3) : Nat) : Int)) ∧ ((0 = 0 ∧ 2 = 2) ∧ Fun cfg 19 [.one (.fs (.sl (.int .u8)) [a0, (List.take (Int.toNat (if (IntKind.wrap .i64 ((64 : Int) - (((List.length a0) : Nat) : Int))) < (((List.length a3) : Nat) : Int) then (IntKind.wrap .i64 ((64 : Int) - (((List.length a0) : Nat) : Int))) else (((List.length a3) : Nat) : Int))) a3)] false)] [] (slices_Concat_byte_byte.R t9) [] ∧ True) ∧ (True) ∧ (True) ∧ (True) ∧ (True ∧ (((True) ∧ True) ∧ ((True) ∧ True) ∧ (.tup [.one (.sc (.int .i64 (if (IntKind.wrap .i64 ((64 : Int) - (((List.length a0) : Nat) : Int))) < (((List.length a3) : Nat) : Int) then (IntKind.wrap .i64 ((64 : Int) - (((List.length a0) : Nat) : Int))) else (((List.length a3) : Nat) : Int)))), .agg [.c (.fs (.int .u8) t9 false), .c (.sc (.int .i64 a1)), .c (.sc (.int .i64 a2))], .one (.err none)] : Tm) = pipe_Write.R r ∧ ([] : List Box) = [])))))))))))))) (by kernel_rfl) ?_)
  refine ⟨trivial, ?_⟩
  refine ⟨trivial, ?_⟩
  refine ⟨trivial, ?_⟩
  refine ⟨trivial, ?_⟩
  obtain ⟨t1, ht1, h⟩ := of_bind h
  refine ⟨t1, ⟨pipe_Check.fun_ ht1, trivial⟩, ?_⟩
  refine ⟨trivial, ?_⟩
  refine ⟨fun b2 => ?_, fun b2 => ?_⟩
  · rw [if_pos (none_f (not_t b2))] at h
    refine ⟨trivial, ?_⟩
    refine ⟨trivial, ?_⟩
    refine ⟨trivial, ?_⟩
    obtain rfl := Option.some.inj h
    exact ⟨⟨trivial, trivial⟩, ⟨trivial, trivial, trivial⟩, rfl, rfl⟩
  · rw [if_neg (not_not_intro (none_t (not_f b2)))] at h
    refine ⟨trivial, ?_⟩
    refine ⟨trivial, ?_⟩
    refine ⟨fun b3 => ?_, fun b3 => ?_⟩
    · rw [if_pos (beq_t b3)] at h
      refine ⟨trivial, ?_⟩
      refine ⟨trivial, ?_⟩
      refine ⟨trivial, ?_⟩
      obtain rfl := Option.some.inj h
      exact ⟨⟨trivial, trivial⟩, ⟨trivial, trivial, trivial⟩, rfl, rfl⟩
    · rw [if_neg (beq_f b3)] at h
      refine ⟨trivial, ?_⟩
      refine ⟨trivial, ?_⟩
      refine ⟨fun b4 => ?_, fun b4 => ?_⟩
      · rw [if_pos (of_decide_eq_true b4)] at h
        refine ⟨b4, ?_⟩
        refine ⟨trivial, ?_⟩
        refine ⟨b4, ?_⟩
        refine ⟨fun b5 => ?_, fun b5 => ?_⟩
        · rw [if_pos (beq_t b5)] at h
          refine ⟨trivial, ?_⟩
          refine ⟨trivial, ?_⟩
          refine ⟨trivial, ?_⟩
          obtain rfl := Option.some.inj h
          exact ⟨⟨trivial, trivial⟩, ⟨trivial, trivial, trivial⟩, rfl, rfl⟩
        · rw [if_neg (beq_f b5)] at h
          refine ⟨trivial, ?_⟩
          refine ⟨trivial, ?_⟩
          obtain ⟨g6, h⟩ := of_guard h
          obtain ⟨t7, ht7, h⟩ := of_bind h
          refine ⟨t7, ?_⟩
          refine ⟨trivial, g6, ⟨⟨rfl, rfl⟩, slices_Concat_byte_byte.fun_ ht7, trivial⟩, trivial, ?_⟩
          refine ⟨trivial, trivial, ?_⟩
          refine ⟨trivial, ?_⟩
          obtain rfl := Option.some.inj h
          exact ⟨⟨trivial, trivial⟩, ⟨trivial, trivial⟩, rfl, rfl⟩
      · rw [if_neg (of_decide_eq_false b4)] at h
        refine ⟨b4, ?_⟩
        refine ⟨b4, ?_⟩
        refine ⟨rfl, ?_⟩
        refine ⟨trivial, ?_⟩
        refine ⟨trivial, ?_⟩
        obtain ⟨g8, h⟩ := of_guard h
        obtain ⟨t9, ht9, h⟩ := of_bind h
        refine ⟨t9, ?_⟩
        refine ⟨trivial, g8, ⟨⟨rfl, rfl⟩, slices_Concat_byte_byte.fun_ ht9, trivial⟩, trivial, ?_⟩
        refine ⟨trivial, trivial, ?_⟩
        refine ⟨trivial, ?_⟩
        obtain rfl := Option.some.inj h
        exact ⟨⟨trivial, trivial⟩, ⟨trivial, trivial⟩, rfl, rfl⟩
/-! slices.Clone[[]byte,byte] -/
def slices_Clone_byte_byte.f (a0 : (List Int)) : Option (List Int) :=
  if (List.length a0) = 0 then same (
    some ([] : List Int)
    ) (
    if True ∧ 0 = 0 ∧ 0 = 0 ∧ ((0 + (List.length a0)) * 1 ≤ 140737488355328 ∧ 0 + (List.length a0) ≤ 9223372036854775807) then
      some (([] : List Int) ++ a0)
    else none
    )
  else
    if True ∧ 0 = 0 ∧ 0 = 0 ∧ ((0 + (List.length a0)) * 1 ≤ 140737488355328 ∧ 0 + (List.length a0) ≤ 9223372036854775807) then
      some (([] : List Int) ++ a0)
    else none
def slices_Clone_byte_byte.R (r : (List Int)) : Tm := .v (.one (.fs (.int .u8) r false))
theorem slices_Clone_byte_byte.fun_ {a0 : (List Int)} {r : (List Int)} (h : slices_Clone_byte_byte.f a0 = some r) : Fun cfg 21 [.one (.fs (.int .u8) a0 false)] [] (slices_Clone_byte_byte.R r) [] := by
  unfold slices_Clone_byte_byte.f at h
  refine fun_of_run cfg_ok (f := 21) (fn := Tryd.f21) Tryd.func21 rfl (by kernel_rfl) (rs := [.tmp 2]) rfl (nt := 8) rfl (l := fin) (k := (.nq (.one true (.adj [] (.adj [] (.adj [.co 0 true [(.int .u8)]] .nil)))) (.one false (.d (.b false) (.adj [] (.adj [.co 0 true [], .drop 0] .nil)))))) (to_goal (q := (((List.length a0) = 0 → (true = true ∧ (True ∧ (True ∧ ((True) ∧ ((True) ∧ True) ∧ (.v (.one (.fs (.int .u8) ([] : List Int) false)) : Tm) = slices_Clone_byte_byte.R r ∧ ([] : List Box) = []))))) ∧ (false = false ∧ (True ∧ 0 = 0 ∧ 0 = 0 ∧ ((0 + (List.length a0)) * 1 ≤ 140737488355328 ∧ 0 + (List.length a0) ≤ 9223372036854775807)) ∧ (True ∧ ((True) ∧ ((((0 = 0 ∧ (List.length (([] : List Int) ++ a0)) = (List.length (([] : List Int) ++ a0)))) ∧ True) ∧ (True) ∧ True) ∧ (.v (.one (.fs (.int .u8) (([] : List Int) ++ a0) false)) : Tm) = slices_Clone_byte_byte.R r ∧ ([] : List Box) = []))))) (by kernel_rfl) ?_)
  refine ⟨fun g1 => ?_, ?_⟩
  · replace h := same_a g1 h
    refine ⟨rfl, ?_⟩
    refine ⟨trivial, ?_⟩
    refine ⟨trivial, ?_⟩
    obtain rfl := Option.some.inj h
    exact ⟨trivial, ⟨trivial, trivial⟩, rfl, rfl⟩
  · replace h := same_b h
    refine ⟨rfl, ?_⟩
    obtain ⟨g2, h⟩ := of_guard h
    refine ⟨g2, ?_⟩
    refine ⟨trivial, ?_⟩
    obtain rfl := Option.some.inj h
    exact ⟨trivial, ⟨⟨⟨rfl, rfl⟩, trivial⟩, trivial, trivial⟩, rfl, rfl⟩
/-! halter/pipe.Read -/
def pipe_Read.f (a0 : (List Int)) (a1 : Int) (a2 : Int) (a3 : Int) : Option (TY0) :=
  (pipe_Check.f a0 a1 a2).bind fun t1 =>
  if ¬ (t1 = none) then
    some (([] : List Int), ([] : List Int), (0 : Int), (0 : Int), (some (22 : Int)))
  else
    if a3 < (0 : Int) then
      some (([] : List Int), ([] : List Int), (0 : Int), (0 : Int), (some (22 : Int)))
    else
      if a3 > (0 : Int) then
        if (((List.length a0) : Nat) : Int) = (0 : Int) then
          if a2 > (0 : Int) then
            some (([] : List Int), ([] : List Int), (0 : Int), (0 : Int), (some (11 : Int)))
          else
            if 0 ≤ (if (((List.length a0) : Nat) : Int) < a3 then (((List.length a0) : Nat) : Int) else a3) ∧ (if (((List.length a0) : Nat) : Int) < a3 then (((List.length a0) : Nat) : Int) else a3) ≤ (((List.length a0) : Nat) : Int) then
              (slices_Clone_byte_byte.f (List.take (Int.toNat (if (((List.length a0) : Nat) : Int) < a3 then (((List.length a0) : Nat) : Int) else a3)) a0)).bind fun t7 =>
              if (True) ∧ ((0 ≤ (if (((List.length a0) : Nat) : Int) < a3 then (((List.length a0) : Nat) : Int) else a3) ∧ (if (((List.length a0) : Nat) : Int) < a3 then (((List.length a0) : Nat) : Int) else a3) ≤ (((List.length a0) : Nat) : Int))) then
                (slices_Clone_byte_byte.f (List.drop (Int.toNat (if (((List.length a0) : Nat) : Int) < a3 then (((List.length a0) : Nat) : Int) else a3)) a0)).bind fun t8 =>
                some (t7, t8, a1, a2, none)
              else none
            else none
        else
          if 0 ≤ (if (((List.length a0) : Nat) : Int) < a3 then (((List.length a0) : Nat) : Int) else a3) ∧ (if (((List.length a0) : Nat) : Int) < a3 then (((List.length a0) : Nat) : Int) else a3) ≤ (((List.length a0) : Nat) : Int) then
            (slices_Clone_byte_byte.f (List.take (Int.toNat (if (((List.length a0) : Nat) : Int) < a3 then (((List.length a0) : Nat) : Int) else a3)) a0)).bind fun t11 =>
            if (True) ∧ ((0 ≤ (if (((List.length a0) : Nat) : Int) < a3 then (((List.length a0) : Nat) : Int) else a3) ∧ (if (((List.length a0) : Nat) : Int) < a3 then (((List.length a0) : Nat) : Int) else a3) ≤ (((List.length a0) : Nat) : Int))) then
              (slices_Clone_byte_byte.f (List.drop (Int.toNat (if (((List.length a0) : Nat) : Int) < a3 then (((List.length a0) : Nat) : Int) else a3)) a0)).bind fun t12 =>
              some (t11, t12, a1, a2, none)
            else none
          else none
      else
        if 0 ≤ (if (((List.length a0) : Nat) : Int) < a3 then (((List.length a0) : Nat) : Int) else a3) ∧ (if (((List.length a0) : Nat) : Int) < a3 then (((List.length a0) : Nat) : Int) else a3) ≤ (((List.length a0) : Nat) : Int) then
          (slices_Clone_byte_byte.f (List.take (Int.toNat (if (((List.length a0) : Nat) : Int) < a3 then (((List.length a0) : Nat) : Int) else a3)) a0)).bind fun t15 =>
          if (True) ∧ ((0 ≤ (if (((List.length a0) : Nat) : Int) < a3 then (((List.length a0) : Nat) : Int) else a3) ∧ (if (((List.length a0) : Nat) : Int) < a3 then (((List.length a0) : Nat) : Int) else a3) ≤ (((List.length a0) : Nat) : Int))) then
            (slices_Clone_byte_byte.f (List.drop (Int.toNat (if (((List.length a0) : Nat) : Int) < a3 then (((List.length a0) : Nat) : Int) else a3)) a0)).bind fun t16 =>
            some (t15, t16, a1, a2, none)
          else none
        else none
def pipe_Read.R (r : TY0) : Tm := .tup [.one (.fs (.int .u8) r.1 false), .agg [.c (.fs (.int .u8) r.2.1 false), .c (.sc (.int .i64 r.2.2.1)), .c (.sc (.int .i64 r.2.2.2.1))], .one (.err r.2.2.2.2)]
theorem pipe_Read.fun_ {a0 : (List Int)} {a1 : Int} {a2 : Int} {a3 : Int} {r : TY0} (h : pipe_Read.f a0 a1 a2 a3 = some r) : Fun cfg 9 [.agg [.c (.fs (.int .u8) a0 false), .c (.sc (.int .i64 a1)), .c (.sc (.int .i64 a2))], .one (.sc (.int .i64 a3))] [] (pipe_Read.R r) [] := by
  unfold pipe_Read.f at h
  refine fun_of_run cfg_ok (f := 9) (fn := Tryd.f9) Tryd.func9 rfl (by kernel_rfl) (rs := [.tmp 4, .cell 5 25, .tmp 6]) rfl (nt := 53) rfl (l := fin) (k := (.call true [] ((Option Int)) (fun t1 => pipe_Check.R t1) (fun t1 => (.br (.one true (.one true (.one true (.adj [] (.adj [] (.adj [.co 0 true [(.int .u8)], .co 1 true [(.int .u8)], .drop 0] .nil)))))) (.one false (.one false (.br (.adj [] (.adj [] (.adj [.co 0 true [(.int .u8)], .co 1 true [(.int .u8)], .drop 0] .nil))) (.br (.one true (.one true (.one true (.one true (.br (.one true (.one true (.one true (.br (.adj [] (.adj [] (.adj [.co 0 true [(.int .u8)], .co 1 true [(.int .u8)], .drop 0] .nil))) (.call true [] ((List Int)) (fun t7 => slices_Clone_byte_byte.R t7) (fun t7 => (.call true [] ((List Int)) (fun t8 => slices_Clone_byte_byte.R t8) (fun t8 => (.dr [(0, dN), (2, dN), (1, dN), (3, dN), (4, dN)] (.adj [] (.adj [.drop 0] .nil))))))))))) (.one false (.one false (.one false (.one false (.call true [] ((List Int)) (fun t11 => slices_Clone_byte_byte.R t11) (fun t11 => (.call true [] ((List Int)) (fun t12 => slices_Clone_byte_byte.R t12) (fun t12 => (.dr [(0, dN), (2, dN), (1, dN), (3, dN), (4, dN)] (.adj [] (.adj [.drop 0] .nil)))))))))))))))) (.one false (.one false (.one false (.one false (.one false (.one false (.one false (.one false (.one false (.call true [] ((List Int)) (fun t15 => slices_Clone_byte_byte.R t15) (fun t15 => (.call true [] ((List Int)) (fun t16 => slices_Clone_byte_byte.R t16) (fun t16 => (.dr [(0, dN), (2, dN), (1, dN), (3, dN), (4, dN)] (.adj [] (.adj [.drop 0] .nil)))))))))))))))))))))))) (to_goal (q := (True) ∧ (∃ t1 : (Option Int), (Fun cfg 16 [.agg [.c (.fs (.int .u8) a0 false), .c (.sc (.int .i64 a1)), .c (.sc (.int .i64 a2))]] [] (pipe_Check.R t1) [] ∧ True) ∧ (True) ∧ (((!(Option.isNone t1)) = false → ((!(Option.isNone t1)) = false ∧ (True) ∧ ((!(Option.isNone t1)) = false ∧ (((decide (a3 < (0 : Int))) = true → (True ∧ (True) ∧ (True ∧ (((True) ∧ True) ∧ ((True) ∧ (True) ∧ (True) ∧ True) ∧ (.tup [.one (.fs (.int .u8) ([] : List Int) false), .agg [.c (.fs (.int .u8) ([] : List Int) false), .c (.sc (.int .i64 (0 : Int))), .c (.sc (.int .i64 (0 : Int)))], .one (.err (some (22 : Int)))] : Tm) = pipe_Read.R r ∧ ([] : List Box) = [])))) ∧ ((decide (a3 < (0 : Int))) = false → (True) ∧ (((decide (a3 > (0 : Int))) = true → ((decide (a3 > (0 : Int))) = true ∧ (True) ∧ ((decide (a3 > (0 : Int))) = true ∧ (True) ∧ ((decide (a3 > (0 : Int))) = true ∧ (True) ∧ ((decide (a3 > (0 : Int))) = true ∧ ((((((List.length a0) : Nat) : Int) == (0 : Int)) = true → (((((List.length a0) : Nat) : Int) == (0 : Int)) = true ∧ (True) ∧ (((((List.length a0) : Nat) : Int) == (0 : Int)) = true ∧ (True) ∧ (((((List.length a0) : Nat) : Int) == (0 : Int)) = true ∧ (((decide (a2 > (0 : Int))) = true → (True ∧ (True) ∧ (True ∧ (((True) ∧ True) ∧ ((True) ∧ (True) ∧ (True) ∧ True) ∧ (.tup [.one (.fs (.int .u8) ([] : List Int) false), .agg [.c (.fs (.int .u8) ([] : List Int) false), .c (.sc (.int .i64 (0 : Int))), .c (.sc (.int .i64 (0 : Int)))], .one (.err (some (11 : Int)))] : Tm) = pipe_Read.R r ∧ ([] : List Box) = [])))) ∧ ((decide (a2 > (0 : Int))) = false → (True) ∧ (True) ∧ (True) ∧ (True) ∧ (0 ≤ (if (((List.length a0) : Nat) : Int) < a3 then (((List.length a0) : Nat) : Int) else a3) ∧ (if (((List.length a0) : Nat) : Int) < a3 then (((List.length a0) : Nat) : Int) else a3) ≤ (((List.length a0) : Nat) : Int)) ∧ (∃ t7 : (List Int), (Fun cfg 21 [.one (.fs (.int .u8) (List.take (Int.toNat (if (((List.length a0) : Nat) : Int) < a3 then (((List.length a0) : Nat) : Int) else a3)) a0) false)] [] (slices_Clone_byte_byte.R t7) [] ∧ True) ∧ (True) ∧ ((True) ∧ ((0 ≤ (if (((List.length a0) : Nat) : Int) < a3 then (((List.length a0) : Nat) : Int) else a3) ∧ (if (((List.length a0) : Nat) : Int) < a3 then (((List.length a0) : Nat) : Int) else a3) ≤ (((List.length a0) : Nat) : Int)))) ∧ (∃ t8 : (List Int), (Fun cfg 21 [.one (.fs (.int .u8) (List.drop (Int.toNat (if (((List.length a0) : Nat) : Int) < a3 then (((List.length a0) : Nat) : Int) else a3)) a0) false)] [] (slices_Clone_byte_byte.R t8) [] ∧ True) ∧ (True) ∧ (True) ∧ (True) ∧ (True ∧ (((True) ∧ True) ∧ ((True) ∧ True) ∧ (.tup [.one (.fs (.int .u8) t7 false), .agg [.c (.fs (.int .u8) t8 false), .c (.sc (.int .i64 a1)), .c (.sc (.int .i64 a2))], .one (.err none)] : Tm) = pipe_Read.R r ∧ ([] : List Box) = [])))))))))) ∧ (((((List.length a0) : Nat) : Int) == (0 : Int)) = false → (((((List.length a0) : Nat) : Int) == (0 : Int)) = false ∧ (((((List.length a0) : Nat) : Int) == (0 : Int)) = false ∧ (((((List.length a0) : Nat) : Int) == (0 : Int)) = false ∧ (false = false ∧ (True) ∧ (True) ∧ (True) ∧ (True) ∧ (0 ≤ (if (((List.length a0) : Nat) : Int) < a3 then (((List.length a0) : Nat) : Int) else a3) ∧ (if (((List.length a0) : Nat) : Int) < a3 then (((List.length a0) : Nat) : Int) else a3) ≤ (((List.length a0) : Nat) : Int)) ∧ (∃ t11 : (List Int), (Fun cfg 21 [.one (.fs (.int .u8) (List.take (Int.toNat (if (((List.length a0) : Nat) : Int) < a3 then (((List.length a0) : Nat) : Int) else a3)) a0) false)] [] (slices_Clone_byte_byte.R t11) [] ∧ True) ∧ (True) ∧ ((True) ∧ ((0 ≤ (if (((List.length a0) : Nat) : Int) < a3 then (((List.length a0) : Nat) : Int) else a3) ∧ (if (((List.length a0) : Nat) : Int) < a3 then (((List.length a0) : Nat) : Int) else a3) ≤ (((List.length a0) : Nat) : Int)))) ∧ (∃ t12 : (List Int), (Fun cfg 21 [.one (.fs (.int .u8) (List.drop (Int.toNat (if (((List.length a0) : Nat) : Int) < a3 then (((List.length a0) : Nat) : Int) else a3)) a0) false)] [] (slices_Clone_byte_byte.R t12) [] ∧ True) ∧ (True) ∧ (True) ∧ (True) ∧ (True ∧ (((True) ∧ True) ∧ ((True) ∧ True) ∧ (.tup [.one (.fs (.int .u8) t11 false), .agg [.c (.fs (.int .u8) t12 false), .c (.sc (.int .i64 a1)), .c (.sc (.int .i64 a2))], .one (.err none)] : Tm) = pipe_Read.R r ∧ ([] : List Box) = []))))))))))))))) ∧ ((decide (a3 > (0 : Int))) = false → ((decide (a3 > (0 : Int))) = false ∧ ((decide (a3 > (0 : Int))) = false ∧ ((decide (a3 > (0 : Int))) = false ∧ ((decide (a3 > (0 : Int))) = false ∧ (false = false ∧ (false = false ∧ (false = false ∧ (false = false ∧ (false = false ∧ (True) ∧ (True) ∧ (True) ∧ (True) ∧ (0 ≤ (if (((List.length a0) : Nat) : Int) < a3 then (((List.length a0) : Nat) : Int) else a3) ∧ (if (((List.length a0) : Nat) : Int) < a3 then (((List.length a0) : Nat) : Int) else a3) ≤ (((List.length a0) : Nat) : Int)) ∧ (∃ t15 : (List Int), (Fun cfg 21 [.one (.fs (.int .u8) (List.take (Int.toNat (if (((List.length a0) : Nat) : Int) < a3 then (((List.length a0) : Nat) : Int) else a3)) a0) false)] [] (slices_Clone_byte_byte.R t15) [] ∧ True) ∧ (True) ∧ ((True) ∧ ((0 ≤ (if (((List.length a0) : Nat) : Int) < a3 then (((List.length a0) : Nat) : Int) else a3) ∧ (if (((List.length a0) : Nat) : Int) < a3 then (((List.length a0) : Nat) : Int) else a3) ≤ (((List.length a0) : Nat) : Int)))) ∧ (∃ t16 : (List Int), (Fun cfg 21 [.one (.fs (.int .u8) (List.drop (Int.toNat (if (((List.length a0) : Nat) : Int) < a3 then (((List.length a0) : Nat) : Int) else a3)) a0) false)] [] (slices_Clone_byte_byte.R t16) [] ∧ True) ∧ (True) ∧ (True) ∧ (True) ∧ (True ∧ (((True) ∧ True) ∧ ((True) ∧ True) ∧ (.tup [.one (.fs (.int .u8) t15 false), .agg [.c (.fs (.int .u8) t16 false), .c (.sc (.int .i64 a1)), .c (.sc (.int .i64 a2))], .one (.err none)] : Tm) = pipe_Read.R r ∧ ([] : List Box) = [])))))))))))))))))))) ∧ ((!(Option.isNone t1)) = true → ((!(Option.isNone t1)) = true ∧ ((!(Option.isNone t1)) = true ∧ (true = true ∧ (True ∧ (True) ∧ (True ∧ (((True) ∧ True) ∧ ((True) ∧ (True) ∧ (True) ∧ True) ∧ (.tup [.one (.fs (.int .u8) ([] : List Int) false), .agg [.c (.fs (.int .u8) ([] : List Int) false), .c (.sc (.int .i64 (0 : Int))), .c (.sc (.int .i64 (0 : Int)))], .one (.err (some (22 : Int)))] : Tm) = pipe_Read.R r ∧ ([] : List Box) = [])))))))))) (by kernel_rfl) ?_)
  refine ⟨trivial, ?_⟩
  obtain ⟨t1, ht1, h⟩ := of_bind h
  refine ⟨t1, ⟨pipe_Check.fun_ ht1, trivial⟩, ?_⟩
  refine ⟨trivial, ?_⟩
  refine ⟨fun b2 => ?_, fun b2 => ?_⟩
  · rw [if_neg (not_not_intro (none_t (not_f b2)))] at h
    refine ⟨b2, ?_⟩
    refine ⟨trivial, ?_⟩
    refine ⟨b2, ?_⟩
    refine ⟨fun b3 => ?_, fun b3 => ?_⟩
    · rw [if_pos (of_decide_eq_true b3)] at h
      refine ⟨trivial, ?_⟩
      refine ⟨trivial, ?_⟩
      refine ⟨trivial, ?_⟩
      obtain rfl := Option.some.inj h
      exact ⟨⟨trivial, trivial⟩, ⟨trivial, trivial, trivial, trivial⟩, rfl, rfl⟩
    · rw [if_neg (of_decide_eq_false b3)] at h
      refine ⟨trivial, ?_⟩
      refine ⟨fun b4 => ?_, fun b4 => ?_⟩
      · rw [if_pos (of_decide_eq_true b4)] at h
        refine ⟨b4, ?_⟩
        refine ⟨trivial, ?_⟩
        refine ⟨b4, ?_⟩
        refine ⟨trivial, ?_⟩
        refine ⟨b4, ?_⟩
        refine ⟨trivial, ?_⟩
        refine ⟨b4, ?_⟩
        refine ⟨fun b5 => ?_, fun b5 => ?_⟩
        · rw [if_pos (beq_t b5)] at h
          refine ⟨b5, ?_⟩
          refine ⟨trivial, ?_⟩
          refine ⟨b5, ?_⟩
          refine ⟨trivial, ?_⟩
          refine ⟨b5, ?_⟩
          refine ⟨fun b6 => ?_, fun b6 => ?_⟩
          · rw [if_pos (of_decide_eq_true b6)] at h
            refine ⟨trivial, ?_⟩
            refine ⟨trivial, ?_⟩
            refine ⟨trivial, ?_⟩
            obtain rfl := Option.some.inj h
            exact ⟨⟨trivial, trivial⟩, ⟨trivial, trivial, trivial, trivial⟩, rfl, rfl⟩
          · rw [if_neg (of_decide_eq_false b6)] at h
            refine ⟨trivial, ?_⟩
            refine ⟨trivial, ?_⟩
            refine ⟨trivial, ?_⟩
            refine ⟨trivial, ?_⟩
            obtain ⟨g10, h⟩ := of_guard h
            refine ⟨g10, ?_⟩
            obtain ⟨t7, ht7, h⟩ := of_bind h
            refine ⟨t7, ⟨slices_Clone_byte_byte.fun_ ht7, trivial⟩, ?_⟩
            refine ⟨trivial, ?_⟩
            obtain ⟨g9, h⟩ := of_guard h
            refine ⟨g9, ?_⟩
            obtain ⟨t8, ht8, h⟩ := of_bind h
            refine ⟨t8, ⟨slices_Clone_byte_byte.fun_ ht8, trivial⟩, ?_⟩
            refine ⟨trivial, ?_⟩
            refine ⟨trivial, trivial, ?_⟩
            refine ⟨trivial, ?_⟩
            obtain rfl := Option.some.inj h
            exact ⟨⟨trivial, trivial⟩, ⟨trivial, trivial⟩, rfl, rfl⟩
        · rw [if_neg (beq_f b5)] at h
          refine ⟨b5, ?_⟩
          refine ⟨b5, ?_⟩
          refine ⟨b5, ?_⟩
          refine ⟨rfl, ?_⟩
          refine ⟨trivial, ?_⟩
          refine ⟨trivial, ?_⟩
          refine ⟨trivial, ?_⟩
          refine ⟨trivial, ?_⟩
          obtain ⟨g14, h⟩ := of_guard h
          refine ⟨g14, ?_⟩
          obtain ⟨t11, ht11, h⟩ := of_bind h
          refine ⟨t11, ⟨slices_Clone_byte_byte.fun_ ht11, trivial⟩, ?_⟩
          refine ⟨trivial, ?_⟩
          obtain ⟨g13, h⟩ := of_guard h
          refine ⟨g13, ?_⟩
          obtain ⟨t12, ht12, h⟩ := of_bind h
          refine ⟨t12, ⟨slices_Clone_byte_byte.fun_ ht12, trivial⟩, ?_⟩
          refine ⟨trivial, ?_⟩
          refine ⟨trivial, trivial, ?_⟩
          refine ⟨trivial, ?_⟩
          obtain rfl := Option.some.inj h
          exact ⟨⟨trivial, trivial⟩, ⟨trivial, trivial⟩, rfl, rfl⟩
      · rw [if_neg (of_decide_eq_false b4)] at h
        refine ⟨b4, ?_⟩
        refine ⟨b4, ?_⟩
        refine ⟨b4, ?_⟩
        refine ⟨b4, ?_⟩
        refine ⟨rfl, ?_⟩
        refine ⟨rfl, ?_⟩
        refine ⟨rfl, ?_⟩
        refine ⟨rfl, ?_⟩
        refine ⟨rfl, ?_⟩
        refine ⟨trivial, ?_⟩
        refine ⟨trivial, ?_⟩
        refine ⟨trivial, ?_⟩
        refine ⟨trivial, ?_⟩
        obtain ⟨g18, h⟩ := of_guard h
        refine ⟨g18, ?_⟩
        obtain ⟨t15, ht15, h⟩ := of_bind h
        refine ⟨t15, ⟨slices_Clone_byte_byte.fun_ ht15, trivial⟩, ?_⟩
        refine ⟨trivial, ?_⟩
        obtain ⟨g17, h⟩ := of_guard h
        refine ⟨g17, ?_⟩
        obtain ⟨t16, ht16, h⟩ := of_bind h
        refine ⟨t16, ⟨slices_Clone_byte_byte.fun_ ht16, trivial⟩, ?_⟩
        refine ⟨trivial, ?_⟩
        refine ⟨trivial, trivial, ?_⟩
        refine ⟨trivial, ?_⟩
        obtain rfl := Option.some.inj h
        exact ⟨⟨trivial, trivial⟩, ⟨trivial, trivial⟩, rfl, rfl⟩
  · rw [if_pos (none_f (not_t b2))] at h
    refine ⟨b2, ?_⟩
    refine ⟨b2, ?_⟩
    refine ⟨rfl, ?_⟩
    refine ⟨trivial, ?_⟩
    refine ⟨trivial, ?_⟩
    refine ⟨trivial, ?_⟩
    obtain rfl := Option.some.inj h
    exact ⟨⟨trivial, trivial⟩, ⟨trivial, trivial, trivial, trivial⟩, rfl, rfl⟩
/-! halter/halterlaw18.sure -/
def halterlaw18_sure.f : Option Bool :=
  (pipe_Write.f ([] : List Int) (1 : Int) (1 : Int) [(97 : Int), (98 : Int), (99 : Int)]).bind fun t1 =>
  (pipe_Read.f t1.2.1 t1.2.2.1 t1.2.2.2.1 (2 : Int)).bind fun t2 =>
  (pipe_Read.f ([] : List Int) (0 : Int) (1 : Int) (1 : Int)).bind fun t3 =>
  (pipe_Write.f ([] : List Int) (0 : Int) (1 : Int) ([] : List Int)).bind fun t4 =>
  if t1.2.2.2.2 = none then
    if t2.2.2.2.2 = none then
      if t1.1 = (3 : Int) then
        if (strOfNums t2.1) = (⟨#[97, 98]⟩ : ByteArray) then
          if (strOfNums t2.2.1) = (⟨#[99]⟩ : ByteArray) then
            (num.f t3.2.2.2.2).bind fun t10 =>
            if t10 = (11 : Int) then
              (num.f t4.2.2.2.2).bind fun t12 =>
              some (t12 == (32 : Int))
            else
              some false
          else
            some false
        else
          some false
      else
        some false
    else
      some false
  else
    some false
def halterlaw18_sure.R (r : Bool) : Tm := .v (.one (.sc (.bool r)))
theorem halterlaw18_sure.fun_ {r : Bool} (h : halterlaw18_sure.f = some r) : Fun cfg 10 [] [] (halterlaw18_sure.R r) [] := by
  unfold halterlaw18_sure.f at h
  refine fun_of_run cfg_ok (f := 10) (fn := Tryd.f10) Tryd.func10 rfl (by kernel_rfl) (rs := [.tmp 0]) rfl (nt := 70) rfl (l := fin) (k := (.call true [(.int .u8)] (TY1) (fun t1 => pipe_Write.R t1) (fun t1 => (.call true [] (TY0) (fun t2 => pipe_Read.R t2) (fun t2 => (.call true [(.int .u8)] (TY0) (fun t3 => pipe_Read.R t3) (fun t3 => (.call true [(.int .u8), (.int .u8)] (TY1) (fun t4 => pipe_Write.R t4) (fun t4 => (.br (.one true (.one true (.br (.one true (.one true (.br (.one true (.d (.b false) (.one true (.one true (.br (.one true (.one true (.d (.b false) (.one true (.one true (.br (.one true (.call true [] (Int) (fun t10 => num.R t10) (fun t10 => (.one true (.one true (.br (.one true (.call true [] (Int) (fun t12 => num.R t12) (fun t12 => (.one true (.one true (.adj [] (.adj [.drop 0] .nil))))))) (.one false (.one false (.one false (.adj [] (.adj [.drop 0] .nil))))))))))) (.one false (.one false (.one false (.one false (.one false (.one false (.one false (.adj [] (.adj [.drop 0] .nil))))))))))))))) (.one false (.one false (.one false (.one false (.one false (.one false (.one false (.one false (.one false (.one false (.one false (.one false (.adj [] (.adj [.drop 0] .nil))))))))))))))))))) (.one false (.one false (.one false (.one false (.one false (.one false (.one false (.one false (.one false (.one false (.one false (.one false (.one false (.one false (.one false (.one false (.adj [] (.adj [.drop 0] .nil))))))))))))))))))))) (.one false (.one false (.one false (.one false (.one false (.one false (.one false (.one false (.one false (.one false (.one false (.one false (.one false (.one false (.one false (.one false (.one false (.one false (.one false (.adj [] (.adj [.drop 0] .nil)))))))))))))))))))))))) (.one false (.one false (.one false (.one false (.one false (.one false (.one false (.one false (.one false (.one false (.one false (.one false (.one false (.one false (.one false (.one false (.one false (.one false (.one false (.one false (.one false (.one false (.adj [] (.adj [.drop 0] .nil)))))))))))))))))))))))))))))))))) (to_goal (q := (0 < 3) ∧ (∃ t1 : TY1, ((0 = 0 ∧ 3 = 3) ∧ Fun cfg 7 [.agg [.c (.fs (.int .u8) ([] : List Int) false), .c (.sc (.int .i64 (1 : Int))), .c (.sc (.int .i64 (1 : Int)))], .one (.fs (.int .u8) [(97 : Int), (98 : Int), (99 : Int)] false)] [] (pipe_Write.R t1) [] ∧ True) ∧ (True) ∧ (True) ∧ (∃ t2 : TY0, (Fun cfg 9 [.agg [.c (.fs (.int .u8) t1.2.1 false), .c (.sc (.int .i64 (p2 t1))), .c (.sc (.int .i64 (p3 t1)))], .one (.sc (.int .i64 (2 : Int)))] [] (pipe_Read.R t2) [] ∧ True) ∧ (True) ∧ (∃ t3 : TY0, (Fun cfg 9 [.agg [.c (.fs (.int .u8) ([] : List Int) false), .c (.sc (.int .i64 (0 : Int))), .c (.sc (.int .i64 (1 : Int)))], .one (.sc (.int .i64 (1 : Int)))] [] (pipe_Read.R t3) [] ∧ True) ∧ (True) ∧ (∃ t4 : TY1, (Fun cfg 7 [.agg [.c (.fs (.int .u8) ([] : List Int) false), .c (.sc (.int .i64 (0 : Int))), .c (.sc (.int .i64 (1 : Int)))], .one (.fs (.int .u8) ([] : List Int) false)] [] (pipe_Write.R t4) [] ∧ True) ∧ (True) ∧ (True) ∧ (((Option.isNone (z4 t1)) = true → ((Option.isNone (z4 t1)) = true ∧ (True) ∧ ((Option.isNone (z4 t1)) = true ∧ (((Option.isNone (z4 t2)) = true → ((Option.isNone (z4 t2)) = true ∧ (True) ∧ ((Option.isNone (z4 t2)) = true ∧ (((t1.1 == (3 : Int)) = true → ((t1.1 == (3 : Int)) = true ∧ (True) ∧ ((t1.1 == (3 : Int)) = true ∧ (True) ∧ ((t1.1 == (3 : Int)) = true ∧ ((((strOfNums t2.1).toList == (⟨#[97, 98]⟩ : ByteArray).toList) = true → (((strOfNums t2.1).toList == (⟨#[97, 98]⟩ : ByteArray).toList) = true ∧ (True) ∧ (((strOfNums t2.1).toList == (⟨#[97, 98]⟩ : ByteArray).toList) = true ∧ (True) ∧ (((strOfNums t2.1).toList == (⟨#[97, 98]⟩ : ByteArray).toList) = true ∧ (True) ∧ (((strOfNums t2.1).toList == (⟨#[97, 98]⟩ : ByteArray).toList) = true ∧ ((((strOfNums t2.2.1).toList == (⟨#[99]⟩ : ByteArray).toList) = true → (((strOfNums t2.2.1).toList == (⟨#[99]⟩ : ByteArray).toList) = true ∧ (∃ t10 : Int, (Fun cfg 8 [.one (.err (z4 t3))] [] (num.R t10) [] ∧ True) ∧ (((strOfNums t2.2.1).toList == (⟨#[99]⟩ : ByteArray).toList) = true ∧ (True) ∧ (((strOfNums t2.2.1).toList == (⟨#[99]⟩ : ByteArray).toList) = true ∧ (((t10 == (11 : Int)) = true → ((t10 == (11 : Int)) = true ∧ (∃ t12 : Int, (Fun cfg 8 [.one (.err (z4 t4))] [] (num.R t12) [] ∧ True) ∧ ((t10 == (11 : Int)) = true ∧ (True) ∧ ((t10 == (11 : Int)) = true ∧ (True ∧ ((True) ∧ ((True) ∧ True) ∧ (.v (.one (.sc (.bool (t12 == (32 : Int))))) : Tm) = halterlaw18_sure.R r ∧ ([] : List Box) = []))))))) ∧ ((t10 == (11 : Int)) = false → ((t10 == (11 : Int)) = false ∧ ((t10 == (11 : Int)) = false ∧ ((t10 == (11 : Int)) = false ∧ (True ∧ ((True) ∧ ((True) ∧ True) ∧ (.v (.one (.sc (.bool false))) : Tm) = halterlaw18_sure.R r ∧ ([] : List Box) = [])))))))))))) ∧ (((strOfNums t2.2.1).toList == (⟨#[99]⟩ : ByteArray).toList) = false → (((strOfNums t2.2.1).toList == (⟨#[99]⟩ : ByteArray).toList) = false ∧ (((strOfNums t2.2.1).toList == (⟨#[99]⟩ : ByteArray).toList) = false ∧ (((strOfNums t2.2.1).toList == (⟨#[99]⟩ : ByteArray).toList) = false ∧ (false = false ∧ (false = false ∧ (false = false ∧ (false = false ∧ (True ∧ ((True) ∧ ((True) ∧ True) ∧ (.v (.one (.sc (.bool false))) : Tm) = halterlaw18_sure.R r ∧ ([] : List Box) = [])))))))))))))))) ∧ (((strOfNums t2.1).toList == (⟨#[97, 98]⟩ : ByteArray).toList) = false → (((strOfNums t2.1).toList == (⟨#[97, 98]⟩ : ByteArray).toList) = false ∧ (((strOfNums t2.1).toList == (⟨#[97, 98]⟩ : ByteArray).toList) = false ∧ (((strOfNums t2.1).toList == (⟨#[97, 98]⟩ : ByteArray).toList) = false ∧ (((strOfNums t2.1).toList == (⟨#[97, 98]⟩ : ByteArray).toList) = false ∧ (false = false ∧ (false = false ∧ (false = false ∧ (false = false ∧ (false = false ∧ (false = false ∧ (false = false ∧ (false = false ∧ (True ∧ ((True) ∧ ((True) ∧ True) ∧ (.v (.one (.sc (.bool false))) : Tm) = halterlaw18_sure.R r ∧ ([] : List Box) = [])))))))))))))))))))) ∧ ((t1.1 == (3 : Int)) = false → ((t1.1 == (3 : Int)) = false ∧ ((t1.1 == (3 : Int)) = false ∧ ((t1.1 == (3 : Int)) = false ∧ (false = false ∧ (false = false ∧ (false = false ∧ (false = false ∧ (false = false ∧ (false = false ∧ (false = false ∧ (false = false ∧ (false = false ∧ (false = false ∧ (false = false ∧ (false = false ∧ (false = false ∧ (True ∧ ((True) ∧ ((True) ∧ True) ∧ (.v (.one (.sc (.bool false))) : Tm) = halterlaw18_sure.R r ∧ ([] : List Box) = []))))))))))))))))))))))) ∧ ((Option.isNone (z4 t2)) = false → ((Option.isNone (z4 t2)) = false ∧ ((Option.isNone (z4 t2)) = false ∧ (false = false ∧ (false = false ∧ (false = false ∧ (false = false ∧ (false = false ∧ (false = false ∧ (false = false ∧ (false = false ∧ (false = false ∧ (false = false ∧ (false = false ∧ (false = false ∧ (false = false ∧ (false = false ∧ (false = false ∧ (false = false ∧ (false = false ∧ (True ∧ ((True) ∧ ((True) ∧ True) ∧ (.v (.one (.sc (.bool false))) : Tm) = halterlaw18_sure.R r ∧ ([] : List Box) = [])))))))))))))))))))))))))) ∧ ((Option.isNone (z4 t1)) = false → ((Option.isNone (z4 t1)) = false ∧ ((Option.isNone (z4 t1)) = false ∧ (false = false ∧ (false = false ∧ (false = false ∧ (false = false ∧ (false = false ∧ (false = false ∧ (false = false ∧ (false = false ∧ (false = false ∧ (false = false ∧ (false = false ∧ (false = false ∧ (false = false ∧ (false = false ∧ (false = false ∧ (false = false ∧ (false = false ∧ (false = false ∧ (false = false ∧ (false = false ∧ (True ∧ ((True) ∧ ((True) ∧ True) ∧ (.v (.one (.sc (.bool false))) : Tm) = halterlaw18_sure.R r ∧ ([] : List Box) = []))))))))))))))))))))))))))))))) (by kernel_rfl) ?_)
  refine ⟨(by decide), ?_⟩
  obtain ⟨t1, ht1, h⟩ := of_bind h
  refine ⟨t1, ⟨⟨rfl, rfl⟩, pipe_Write.fun_ ht1, trivial⟩, ?_⟩
  refine ⟨trivial, ?_⟩
  refine ⟨trivial, ?_⟩
  obtain ⟨t2, ht2, h⟩ := of_bind h
  refine ⟨t2, ⟨pipe_Read.fun_ ht2, trivial⟩, ?_⟩
  refine ⟨trivial, ?_⟩
  obtain ⟨t3, ht3, h⟩ := of_bind h
  refine ⟨t3, ⟨pipe_Read.fun_ ht3, trivial⟩, ?_⟩
  refine ⟨trivial, ?_⟩
  obtain ⟨t4, ht4, h⟩ := of_bind h
  refine ⟨t4, ⟨pipe_Write.fun_ ht4, trivial⟩, ?_⟩
  refine ⟨trivial, ?_⟩
  refine ⟨trivial, ?_⟩
  refine ⟨fun b5 => ?_, fun b5 => ?_⟩
  · rw [if_pos (none_t b5)] at h
    refine ⟨b5, ?_⟩
    refine ⟨trivial, ?_⟩
    refine ⟨b5, ?_⟩
    refine ⟨fun b6 => ?_, fun b6 => ?_⟩
    · rw [if_pos (none_t b6)] at h
      refine ⟨b6, ?_⟩
      refine ⟨trivial, ?_⟩
      refine ⟨b6, ?_⟩
      refine ⟨fun b7 => ?_, fun b7 => ?_⟩
      · rw [if_pos (beq_t b7)] at h
        refine ⟨b7, ?_⟩
        refine ⟨trivial, ?_⟩
        refine ⟨b7, ?_⟩
        refine ⟨trivial, ?_⟩
        refine ⟨b7, ?_⟩
        refine ⟨fun b8 => ?_, fun b8 => ?_⟩
        · rw [if_pos (str_t b8)] at h
          refine ⟨b8, ?_⟩
          refine ⟨trivial, ?_⟩
          refine ⟨b8, ?_⟩
          refine ⟨trivial, ?_⟩
          refine ⟨b8, ?_⟩
          refine ⟨trivial, ?_⟩
          refine ⟨b8, ?_⟩
          refine ⟨fun b9 => ?_, fun b9 => ?_⟩
          · rw [if_pos (str_t b9)] at h
            refine ⟨b9, ?_⟩
            obtain ⟨t10, ht10, h⟩ := of_bind h
            refine ⟨t10, ⟨num.fun_ ht10, trivial⟩, ?_⟩
            refine ⟨b9, ?_⟩
            refine ⟨trivial, ?_⟩
            refine ⟨b9, ?_⟩
            refine ⟨fun b11 => ?_, fun b11 => ?_⟩
            · rw [if_pos (beq_t b11)] at h
              refine ⟨b11, ?_⟩
              obtain ⟨t12, ht12, h⟩ := of_bind h
              refine ⟨t12, ⟨num.fun_ ht12, trivial⟩, ?_⟩
              refine ⟨b11, ?_⟩
              refine ⟨trivial, ?_⟩
              refine ⟨b11, ?_⟩
              refine ⟨trivial, ?_⟩
              obtain rfl := Option.some.inj h
              exact ⟨trivial, ⟨trivial, trivial⟩, rfl, rfl⟩
            · rw [if_neg (beq_f b11)] at h
              refine ⟨b11, ?_⟩
              refine ⟨b11, ?_⟩
              refine ⟨b11, ?_⟩
              refine ⟨trivial, ?_⟩
              obtain rfl := Option.some.inj h
              exact ⟨trivial, ⟨trivial, trivial⟩, rfl, rfl⟩
          · rw [if_neg (str_f b9)] at h
            refine ⟨b9, ?_⟩
            refine ⟨b9, ?_⟩
            refine ⟨b9, ?_⟩
            refine ⟨rfl, ?_⟩
            refine ⟨rfl, ?_⟩
            refine ⟨rfl, ?_⟩
            refine ⟨rfl, ?_⟩
            refine ⟨trivial, ?_⟩
            obtain rfl := Option.some.inj h
            exact ⟨trivial, ⟨trivial, trivial⟩, rfl, rfl⟩
        · rw [if_neg (str_f b8)] at h
          refine ⟨b8, ?_⟩
          refine ⟨b8, ?_⟩
          refine ⟨b8, ?_⟩
          refine ⟨b8, ?_⟩
          refine ⟨rfl, ?_⟩
          refine ⟨rfl, ?_⟩
          refine ⟨rfl, ?_⟩
          refine ⟨rfl, ?_⟩
          refine ⟨rfl, ?_⟩
          refine ⟨rfl, ?_⟩
          refine ⟨rfl, ?_⟩
          refine ⟨rfl, ?_⟩
          refine ⟨trivial, ?_⟩
          obtain rfl := Option.some.inj h
          exact ⟨trivial, ⟨trivial, trivial⟩, rfl, rfl⟩
      · rw [if_neg (beq_f b7)] at h
        refine ⟨b7, ?_⟩
        refine ⟨b7, ?_⟩
        refine ⟨b7, ?_⟩
        refine ⟨rfl, ?_⟩
        refine ⟨rfl, ?_⟩
        refine ⟨rfl, ?_⟩
        refine ⟨rfl, ?_⟩
        refine ⟨rfl, ?_⟩
        refine ⟨rfl, ?_⟩
        refine ⟨rfl, ?_⟩
        refine ⟨rfl, ?_⟩
        refine ⟨rfl, ?_⟩
        refine ⟨rfl, ?_⟩
        refine ⟨rfl, ?_⟩
        refine ⟨rfl, ?_⟩
        refine ⟨rfl, ?_⟩
        refine ⟨trivial, ?_⟩
        obtain rfl := Option.some.inj h
        exact ⟨trivial, ⟨trivial, trivial⟩, rfl, rfl⟩
    · rw [if_neg (none_f b6)] at h
      refine ⟨b6, ?_⟩
      refine ⟨b6, ?_⟩
      refine ⟨rfl, ?_⟩
      refine ⟨rfl, ?_⟩
      refine ⟨rfl, ?_⟩
      refine ⟨rfl, ?_⟩
      refine ⟨rfl, ?_⟩
      refine ⟨rfl, ?_⟩
      refine ⟨rfl, ?_⟩
      refine ⟨rfl, ?_⟩
      refine ⟨rfl, ?_⟩
      refine ⟨rfl, ?_⟩
      refine ⟨rfl, ?_⟩
      refine ⟨rfl, ?_⟩
      refine ⟨rfl, ?_⟩
      refine ⟨rfl, ?_⟩
      refine ⟨rfl, ?_⟩
      refine ⟨rfl, ?_⟩
      refine ⟨rfl, ?_⟩
      refine ⟨trivial, ?_⟩
      obtain rfl := Option.some.inj h
      exact ⟨trivial, ⟨trivial, trivial⟩, rfl, rfl⟩
  · rw [if_neg (none_f b5)] at h
    refine ⟨b5, ?_⟩
    refine ⟨b5, ?_⟩
    refine ⟨rfl, ?_⟩
    refine ⟨rfl, ?_⟩
    refine ⟨rfl, ?_⟩
    refine ⟨rfl, ?_⟩
    refine ⟨rfl, ?_⟩
    refine ⟨rfl, ?_⟩
    refine ⟨rfl, ?_⟩
    refine ⟨rfl, ?_⟩
    refine ⟨rfl, ?_⟩
    refine ⟨rfl, ?_⟩
    refine ⟨rfl, ?_⟩
    refine ⟨rfl, ?_⟩
    refine ⟨rfl, ?_⟩
    refine ⟨rfl, ?_⟩
    refine ⟨rfl, ?_⟩
    refine ⟨rfl, ?_⟩
    refine ⟨rfl, ?_⟩
    refine ⟨rfl, ?_⟩
    refine ⟨rfl, ?_⟩
    refine ⟨rfl, ?_⟩
    refine ⟨trivial, ?_⟩
    obtain rfl := Option.some.inj h
    exact ⟨trivial, ⟨trivial, trivial⟩, rfl, rfl⟩
/-! halter/pipe.moved -/
def pipe_moved.f (a0 : (List Int)) (a1 : Int) (a2 : Int) (a3 : Bool) (a4 : Int) : Option ((List Int) × Int × Int × (Option Int)) :=
  (pipe_Check.f a0 a1 a2).bind fun t1 =>
  if ¬ (t1 = none) then
    some (([] : List Int), (0 : Int), (0 : Int), (some (22 : Int)))
  else
    if a3 = true then
      (slices_Clone_byte_byte.f a0).bind fun t4 =>
      if a1 = (0 : Int) then
        (pipe_Check.f ([] : List Int) a1 (IntKind.wrap .i64 (a2 + a4))).bind fun t6 =>
        if ¬ (t6 = none) then
          some (([] : List Int), (0 : Int), (0 : Int), (some (22 : Int)))
        else
          some (([] : List Int), a1, (IntKind.wrap .i64 (a2 + a4)), none)
      else
        (pipe_Check.f t4 a1 (IntKind.wrap .i64 (a2 + a4))).bind fun t8 =>
        if ¬ (t8 = none) then
          some (([] : List Int), (0 : Int), (0 : Int), (some (22 : Int)))
        else
          some (t4, a1, (IntKind.wrap .i64 (a2 + a4)), none)
    else
      (slices_Clone_byte_byte.f a0).bind fun t10 =>
      if (IntKind.wrap .i64 (a1 + a4)) = (0 : Int) then
        (pipe_Check.f ([] : List Int) (IntKind.wrap .i64 (a1 + a4)) a2).bind fun t12 =>
        if ¬ (t12 = none) then
          some (([] : List Int), (0 : Int), (0 : Int), (some (22 : Int)))
        else
          some (([] : List Int), (IntKind.wrap .i64 (a1 + a4)), a2, none)
      else
        (pipe_Check.f t10 (IntKind.wrap .i64 (a1 + a4)) a2).bind fun t14 =>
        if ¬ (t14 = none) then
          some (([] : List Int), (0 : Int), (0 : Int), (some (22 : Int)))
        else
          some (t10, (IntKind.wrap .i64 (a1 + a4)), a2, none)
def pipe_moved.R (r : (List Int) × Int × Int × (Option Int)) : Tm := .tup [.agg [.c (.fs (.int .u8) r.1 false), .c (.sc (.int .i64 r.2.1)), .c (.sc (.int .i64 r.2.2.1))], .one (.err r.2.2.2)]
theorem pipe_moved.fun_ {a0 : (List Int)} {a1 : Int} {a2 : Int} {a3 : Bool} {a4 : Int} {r : (List Int) × Int × Int × (Option Int)} (h : pipe_moved.f a0 a1 a2 a3 a4 = some r) : Fun cfg 18 [.agg [.c (.fs (.int .u8) a0 false), .c (.sc (.int .i64 a1)), .c (.sc (.int .i64 a2))], .one (.sc (.bool a3)), .one (.sc (.int .i64 a4))] [] (pipe_moved.R r) [] := by
  unfold pipe_moved.f at h
  refine fun_of_run cfg_ok (f := 18) (fn := Tryd.f18) Tryd.func18 rfl (by kernel_rfl) (rs := [.cell 6 25, .tmp 7]) rfl (nt := 38) rfl (l := fin) (k := (.call true [] ((Option Int)) (fun t1 => pipe_Check.R t1) (fun t1 => (.br (.adj [] (.adj [] (.adj [.co 0 true [(.int .u8)], .drop 0] .nil))) (.br (.call true [] ((List Int)) (fun t4 => slices_Clone_byte_byte.R t4) (fun t4 => (.br (.call true [(.int .u8)] ((Option Int)) (fun t6 => pipe_Check.R t6) (fun t6 => (.br (.adj [] (.adj [] (.adj [.co 0 true [(.int .u8)], .drop 0] .nil))) (.adj [] (.adj [] (.adj [] (.adj [.co 0 true [(.int .u8)], .drop 0] .nil))))))) (.call true [] ((Option Int)) (fun t8 => pipe_Check.R t8) (fun t8 => (.br (.adj [] (.adj [] (.adj [.co 0 true [(.int .u8)], .drop 0] .nil))) (.adj [] (.adj [] (.adj [] (.adj [.drop 0] .nil)))))))))) (.call true [] ((List Int)) (fun t10 => slices_Clone_byte_byte.R t10) (fun t10 => (.br (.call true [(.int .u8)] ((Option Int)) (fun t12 => pipe_Check.R t12) (fun t12 => (.br (.adj [] (.adj [] (.adj [.co 0 true [(.int .u8)], .drop 0] .nil))) (.adj [] (.adj [] (.adj [] (.adj [.co 0 true [(.int .u8)], .drop 0] .nil))))))) (.call true [] ((Option Int)) (fun t14 => pipe_Check.R t14) (fun t14 => (.br (.adj [] (.adj [] (.adj [.co 0 true [(.int .u8)], .drop 0] .nil))) (.adj [] (.adj [] (.adj [] (.adj [.drop 0] .nil))))))))))))))) (to_goal (q := (True) ∧ (∃ t1 : (Option Int), (Fun cfg 16 [.agg [.c (.fs (.int .u8) a0 false), .c (.sc (.int .i64 a1)), .c (.sc (.int .i64 a2))]] [] (pipe_Check.R t1) [] ∧ True) ∧ (True) ∧ (((!(Option.isNone t1)) = true → (True ∧ (True) ∧ (True ∧ (((True) ∧ True) ∧ ((True) ∧ (True) ∧ True) ∧ (.tup [.agg [.c (.fs (.int .u8) ([] : List Int) false), .c (.sc (.int .i64 (0 : Int))), .c (.sc (.int .i64 (0 : Int)))], .one (.err (some (22 : Int)))] : Tm) = pipe_moved.R r ∧ ([] : List Box) = [])))) ∧ ((!(Option.isNone t1)) = false → ((a3 = true → (True) ∧ (True) ∧ (True) ∧ (True) ∧ (∃ t4 : (List Int), (Fun cfg 21 [.one (.fs (.int .u8) a0 false)] [] (slices_Clone_byte_byte.R t4) [] ∧ True) ∧ (True) ∧ (True) ∧ (True) ∧ (((a1 == (0 : Int)) = true → (True) ∧ (True) ∧ (∃ t6 : (Option Int), (Fun cfg 16 [.agg [.c (.fs (.int .u8) ([] : List Int) false), .c (.sc (.int .i64 a1)), .c (.sc (.int .i64 (IntKind.wrap .i64 (a2 + a4))))]] [] (pipe_Check.R t6) [] ∧ True) ∧ (True) ∧ (((!(Option.isNone t6)) = true → (True ∧ (True) ∧ (True ∧ (((True) ∧ True) ∧ ((True) ∧ (True) ∧ True) ∧ (.tup [.agg [.c (.fs (.int .u8) ([] : List Int) false), .c (.sc (.int .i64 (0 : Int))), .c (.sc (.int .i64 (0 : Int)))], .one (.err (some (22 : Int)))] : Tm) = pipe_moved.R r ∧ ([] : List Box) = [])))) ∧ ((!(Option.isNone t6)) = false → (True ∧ (True ∧ (True) ∧ (True) ∧ (True ∧ (((True) ∧ True) ∧ ((True) ∧ (True) ∧ True) ∧ (.tup [.agg [.c (.fs (.int .u8) ([] : List Int) false), .c (.sc (.int .i64 a1)), .c (.sc (.int .i64 (IntKind.wrap .i64 (a2 + a4))))], .one (.err none)] : Tm) = pipe_moved.R r ∧ ([] : List Box) = [])))))))) ∧ ((a1 == (0 : Int)) = false → (True) ∧ (∃ t8 : (Option Int), (Fun cfg 16 [.agg [.c (.fs (.int .u8) t4 false), .c (.sc (.int .i64 a1)), .c (.sc (.int .i64 (IntKind.wrap .i64 (a2 + a4))))]] [] (pipe_Check.R t8) [] ∧ True) ∧ (True) ∧ (((!(Option.isNone t8)) = true → (True ∧ (True) ∧ (True ∧ (((True) ∧ True) ∧ ((True) ∧ (True) ∧ True) ∧ (.tup [.agg [.c (.fs (.int .u8) ([] : List Int) false), .c (.sc (.int .i64 (0 : Int))), .c (.sc (.int .i64 (0 : Int)))], .one (.err (some (22 : Int)))] : Tm) = pipe_moved.R r ∧ ([] : List Box) = [])))) ∧ ((!(Option.isNone t8)) = false → (True ∧ (True ∧ (True) ∧ (True) ∧ (True ∧ (((True) ∧ True) ∧ ((True) ∧ True) ∧ (.tup [.agg [.c (.fs (.int .u8) t4 false), .c (.sc (.int .i64 a1)), .c (.sc (.int .i64 (IntKind.wrap .i64 (a2 + a4))))], .one (.err none)] : Tm) = pipe_moved.R r ∧ ([] : List Box) = []))))))))))) ∧ (a3 = false → (True) ∧ (True) ∧ (True) ∧ (True) ∧ (∃ t10 : (List Int), (Fun cfg 21 [.one (.fs (.int .u8) a0 false)] [] (slices_Clone_byte_byte.R t10) [] ∧ True) ∧ (True) ∧ (True) ∧ (True) ∧ ((((IntKind.wrap .i64 (a1 + a4)) == (0 : Int)) = true → (True) ∧ (True) ∧ (∃ t12 : (Option Int), (Fun cfg 16 [.agg [.c (.fs (.int .u8) ([] : List Int) false), .c (.sc (.int .i64 (IntKind.wrap .i64 (a1 + a4)))), .c (.sc (.int .i64 a2))]] [] (pipe_Check.R t12) [] ∧ True) ∧ (True) ∧ (((!(Option.isNone t12)) = true → (True ∧ (True) ∧ (True ∧ (((True) ∧ True) ∧ ((True) ∧ (True) ∧ True) ∧ (.tup [.agg [.c (.fs (.int .u8) ([] : List Int) false), .c (.sc (.int .i64 (0 : Int))), .c (.sc (.int .i64 (0 : Int)))], .one (.err (some (22 : Int)))] : Tm) = pipe_moved.R r ∧ ([] : List Box) = [])))) ∧ ((!(Option.isNone t12)) = false → (True ∧ (True ∧ (True) ∧ (True) ∧ (True ∧ (((True) ∧ True) ∧ ((True) ∧ (True) ∧ True) ∧ (.tup [.agg [.c (.fs (.int .u8) ([] : List Int) false), .c (.sc (.int .i64 (IntKind.wrap .i64 (a1 + a4)))), .c (.sc (.int .i64 a2))], .one (.err none)] : Tm) = pipe_moved.R r ∧ ([] : List Box) = [])))))))) ∧ (((IntKind.wrap .i64 (a1 + a4)) == (0 : Int)) = false → (True) ∧ (∃ t14 : (Option Int), (Fun cfg 16 [.agg [.c (.fs (.int .u8) t10 false), .c (.sc (.int .i64 (IntKind.wrap .i64 (a1 + a4)))), .c (.sc (.int .i64 a2))]] [] (pipe_Check.R t14) [] ∧ True) ∧ (True) ∧ (((!(Option.isNone t14)) = true → (True ∧ (True) ∧ (True ∧ (((True) ∧ True) ∧ ((True) ∧ (True) ∧ True) ∧ (.tup [.agg [.c (.fs (.int .u8) ([] : List Int) false), .c (.sc (.int .i64 (0 : Int))), .c (.sc (.int .i64 (0 : Int)))], .one (.err (some (22 : Int)))] : Tm) = pipe_moved.R r ∧ ([] : List Box) = [])))) ∧ ((!(Option.isNone t14)) = false → (True ∧ (True ∧ (True) ∧ (True) ∧ (True ∧ (((True) ∧ True) ∧ ((True) ∧ True) ∧ (.tup [.agg [.c (.fs (.int .u8) t10 false), .c (.sc (.int .i64 (IntKind.wrap .i64 (a1 + a4)))), .c (.sc (.int .i64 a2))], .one (.err none)] : Tm) = pipe_moved.R r ∧ ([] : List Box) = [])))))))))))))))) (by kernel_rfl) ?_)
  refine ⟨trivial, ?_⟩
  obtain ⟨t1, ht1, h⟩ := of_bind h
  refine ⟨t1, ⟨pipe_Check.fun_ ht1, trivial⟩, ?_⟩
  refine ⟨trivial, ?_⟩
  refine ⟨fun b2 => ?_, fun b2 => ?_⟩
  · rw [if_pos (none_f (not_t b2))] at h
    refine ⟨trivial, ?_⟩
    refine ⟨trivial, ?_⟩
    refine ⟨trivial, ?_⟩
    obtain rfl := Option.some.inj h
    exact ⟨⟨trivial, trivial⟩, ⟨trivial, trivial, trivial⟩, rfl, rfl⟩
  · rw [if_neg (not_not_intro (none_t (not_f b2)))] at h
    refine ⟨fun b3 => ?_, fun b3 => ?_⟩
    · rw [if_pos b3] at h
      refine ⟨trivial, ?_⟩
      refine ⟨trivial, ?_⟩
      refine ⟨trivial, ?_⟩
      refine ⟨trivial, ?_⟩
      obtain ⟨t4, ht4, h⟩ := of_bind h
      refine ⟨t4, ⟨slices_Clone_byte_byte.fun_ ht4, trivial⟩, ?_⟩
      refine ⟨trivial, ?_⟩
      refine ⟨trivial, ?_⟩
      refine ⟨trivial, ?_⟩
      refine ⟨fun b5 => ?_, fun b5 => ?_⟩
      · rw [if_pos (beq_t b5)] at h
        refine ⟨trivial, ?_⟩
        refine ⟨trivial, ?_⟩
        obtain ⟨t6, ht6, h⟩ := of_bind h
        refine ⟨t6, ⟨pipe_Check.fun_ ht6, trivial⟩, ?_⟩
        refine ⟨trivial, ?_⟩
        refine ⟨fun b7 => ?_, fun b7 => ?_⟩
        · rw [if_pos (none_f (not_t b7))] at h
          refine ⟨trivial, ?_⟩
          refine ⟨trivial, ?_⟩
          refine ⟨trivial, ?_⟩
          obtain rfl := Option.some.inj h
          exact ⟨⟨trivial, trivial⟩, ⟨trivial, trivial, trivial⟩, rfl, rfl⟩
        · rw [if_neg (not_not_intro (none_t (not_f b7)))] at h
          refine ⟨trivial, ?_⟩
          refine ⟨trivial, ?_⟩
          refine ⟨trivial, ?_⟩
          refine ⟨trivial, ?_⟩
          refine ⟨trivial, ?_⟩
          obtain rfl := Option.some.inj h
          exact ⟨⟨trivial, trivial⟩, ⟨trivial, trivial, trivial⟩, rfl, rfl⟩
      · rw [if_neg (beq_f b5)] at h
        refine ⟨trivial, ?_⟩
        obtain ⟨t8, ht8, h⟩ := of_bind h
        refine ⟨t8, ⟨pipe_Check.fun_ ht8, trivial⟩, ?_⟩
        refine ⟨trivial, ?_⟩
        refine ⟨fun b9 => ?_, fun b9 => ?_⟩
        · rw [if_pos (none_f (not_t b9))] at h
          refine ⟨trivial, ?_⟩
          refine ⟨trivial, ?_⟩
          refine ⟨trivial, ?_⟩
          obtain rfl := Option.some.inj h
          exact ⟨⟨trivial, trivial⟩, ⟨trivial, trivial, trivial⟩, rfl, rfl⟩
        · rw [if_neg (not_not_intro (none_t (not_f b9)))] at h
          refine ⟨trivial, ?_⟩
          refine ⟨trivial, ?_⟩
          refine ⟨trivial, ?_⟩
          refine ⟨trivial, ?_⟩
          refine ⟨trivial, ?_⟩
          obtain rfl := Option.some.inj h
          exact ⟨⟨trivial, trivial⟩, ⟨trivial, trivial⟩, rfl, rfl⟩
    · rw [if_neg (ff b3)] at h
      refine ⟨trivial, ?_⟩
      refine ⟨trivial, ?_⟩
      refine ⟨trivial, ?_⟩
      refine ⟨trivial, ?_⟩
      obtain ⟨t10, ht10, h⟩ := of_bind h
      refine ⟨t10, ⟨slices_Clone_byte_byte.fun_ ht10, trivial⟩, ?_⟩
      refine ⟨trivial, ?_⟩
      refine ⟨trivial, ?_⟩
      refine ⟨trivial, ?_⟩
      refine ⟨fun b11 => ?_, fun b11 => ?_⟩
      · rw [if_pos (beq_t b11)] at h
        refine ⟨trivial, ?_⟩
        refine ⟨trivial, ?_⟩
        obtain ⟨t12, ht12, h⟩ := of_bind h
        refine ⟨t12, ⟨pipe_Check.fun_ ht12, trivial⟩, ?_⟩
        refine ⟨trivial, ?_⟩
        refine ⟨fun b13 => ?_, fun b13 => ?_⟩
        · rw [if_pos (none_f (not_t b13))] at h
          refine ⟨trivial, ?_⟩
          refine ⟨trivial, ?_⟩
          refine ⟨trivial, ?_⟩
          obtain rfl := Option.some.inj h
          exact ⟨⟨trivial, trivial⟩, ⟨trivial, trivial, trivial⟩, rfl, rfl⟩
        · rw [if_neg (not_not_intro (none_t (not_f b13)))] at h
          refine ⟨trivial, ?_⟩
          refine ⟨trivial, ?_⟩
          refine ⟨trivial, ?_⟩
          refine ⟨trivial, ?_⟩
          refine ⟨trivial, ?_⟩
          obtain rfl := Option.some.inj h
          exact ⟨⟨trivial, trivial⟩, ⟨trivial, trivial, trivial⟩, rfl, rfl⟩
      · rw [if_neg (beq_f b11)] at h
        refine ⟨trivial, ?_⟩
        obtain ⟨t14, ht14, h⟩ := of_bind h
        refine ⟨t14, ⟨pipe_Check.fun_ ht14, trivial⟩, ?_⟩
        refine ⟨trivial, ?_⟩
        refine ⟨fun b15 => ?_, fun b15 => ?_⟩
        · rw [if_pos (none_f (not_t b15))] at h
          refine ⟨trivial, ?_⟩
          refine ⟨trivial, ?_⟩
          refine ⟨trivial, ?_⟩
          obtain rfl := Option.some.inj h
          exact ⟨⟨trivial, trivial⟩, ⟨trivial, trivial, trivial⟩, rfl, rfl⟩
        · rw [if_neg (not_not_intro (none_t (not_f b15)))] at h
          refine ⟨trivial, ?_⟩
          refine ⟨trivial, ?_⟩
          refine ⟨trivial, ?_⟩
          refine ⟨trivial, ?_⟩
          refine ⟨trivial, ?_⟩
          obtain rfl := Option.some.inj h
          exact ⟨⟨trivial, trivial⟩, ⟨trivial, trivial⟩, rfl, rfl⟩
/-! halter/pipe.Open -/
def pipe_Open.f (a0 : (List Int)) (a1 : Int) (a2 : Int) (a3 : Bool) : Option ((List Int) × Int × Int × (Option Int)) :=
  (pipe_moved.f a0 a1 a2 a3 (1 : Int)).bind fun t1 =>
  some (t1.1, t1.2.1, t1.2.2.1, t1.2.2.2)
def pipe_Open.R (r : (List Int) × Int × Int × (Option Int)) : Tm := .tup [.agg [.c (.fs (.int .u8) r.1 false), .c (.sc (.int .i64 r.2.1)), .c (.sc (.int .i64 r.2.2.1))], .one (.err r.2.2.2)]
theorem pipe_Open.fun_ {a0 : (List Int)} {a1 : Int} {a2 : Int} {a3 : Bool} {r : (List Int) × Int × Int × (Option Int)} (h : pipe_Open.f a0 a1 a2 a3 = some r) : Fun cfg 6 [.agg [.c (.fs (.int .u8) a0 false), .c (.sc (.int .i64 a1)), .c (.sc (.int .i64 a2))], .one (.sc (.bool a3))] [] (pipe_Open.R r) [] := by
  unfold pipe_Open.f at h
  refine fun_of_run cfg_ok (f := 6) (fn := Tryd.f6) Tryd.func6 rfl (by kernel_rfl) (rs := [.cell 4 25, .tmp 5]) rfl (nt := 11) rfl (l := fin) (k := (.call true [] ((List Int) × Int × Int × (Option Int)) (fun t1 => pipe_moved.R t1) (fun t1 => (.adj [] (.adj [.drop 0] .nil))))) (to_goal (q := (True) ∧ (∃ t1 : (List Int) × Int × Int × (Option Int), (Fun cfg 18 [.agg [.c (.fs (.int .u8) a0 false), .c (.sc (.int .i64 a1)), .c (.sc (.int .i64 a2))], .one (.sc (.bool a3)), .one (.sc (.int .i64 (1 : Int)))] [] (pipe_moved.R t1) [] ∧ True) ∧ (True) ∧ (True ∧ (((True) ∧ True) ∧ ((True) ∧ True) ∧ (.tup [.agg [.c (.fs (.int .u8) t1.1 false), .c (.sc (.int .i64 t1.2.1)), .c (.sc (.int .i64 (p2 t1)))], .one (.err (z3 t1))] : Tm) = pipe_Open.R r ∧ ([] : List Box) = [])))) (by kernel_rfl) ?_)
  refine ⟨trivial, ?_⟩
  obtain ⟨t1, ht1, h⟩ := of_bind h
  refine ⟨t1, ⟨pipe_moved.fun_ ht1, trivial⟩, ?_⟩
  refine ⟨trivial, ?_⟩
  refine ⟨trivial, ?_⟩
  obtain rfl := Option.some.inj h
  exact ⟨⟨trivial, trivial⟩, ⟨trivial, trivial⟩, rfl, rfl⟩
/-! halter/pipe.Close -/
def pipe_Close.f (a0 : (List Int)) (a1 : Int) (a2 : Int) (a3 : Bool) : Option ((List Int) × Int × Int × (Option Int)) :=
  (pipe_moved.f a0 a1 a2 a3 (-1 : Int)).bind fun t1 =>
  some (t1.1, t1.2.1, t1.2.2.1, t1.2.2.2)
def pipe_Close.R (r : (List Int) × Int × Int × (Option Int)) : Tm := .tup [.agg [.c (.fs (.int .u8) r.1 false), .c (.sc (.int .i64 r.2.1)), .c (.sc (.int .i64 r.2.2.1))], .one (.err r.2.2.2)]
theorem pipe_Close.fun_ {a0 : (List Int)} {a1 : Int} {a2 : Int} {a3 : Bool} {r : (List Int) × Int × Int × (Option Int)} (h : pipe_Close.f a0 a1 a2 a3 = some r) : Fun cfg 15 [.agg [.c (.fs (.int .u8) a0 false), .c (.sc (.int .i64 a1)), .c (.sc (.int .i64 a2))], .one (.sc (.bool a3))] [] (pipe_Close.R r) [] := by
  unfold pipe_Close.f at h
  refine fun_of_run cfg_ok (f := 15) (fn := Tryd.f15) Tryd.func15 rfl (by kernel_rfl) (rs := [.cell 4 25, .tmp 5]) rfl (nt := 11) rfl (l := fin) (k := (.call true [] ((List Int) × Int × Int × (Option Int)) (fun t1 => pipe_moved.R t1) (fun t1 => (.adj [] (.adj [.drop 0] .nil))))) (to_goal (q := (True) ∧ (∃ t1 : (List Int) × Int × Int × (Option Int), (Fun cfg 18 [.agg [.c (.fs (.int .u8) a0 false), .c (.sc (.int .i64 a1)), .c (.sc (.int .i64 a2))], .one (.sc (.bool a3)), .one (.sc (.int .i64 (-1 : Int)))] [] (pipe_moved.R t1) [] ∧ True) ∧ (True) ∧ (True ∧ (((True) ∧ True) ∧ ((True) ∧ True) ∧ (.tup [.agg [.c (.fs (.int .u8) t1.1 false), .c (.sc (.int .i64 t1.2.1)), .c (.sc (.int .i64 (p2 t1)))], .one (.err (z3 t1))] : Tm) = pipe_Close.R r ∧ ([] : List Box) = [])))) (by kernel_rfl) ?_)
  refine ⟨trivial, ?_⟩
  obtain ⟨t1, ht1, h⟩ := of_bind h
  refine ⟨t1, ⟨pipe_moved.fun_ ht1, trivial⟩, ?_⟩
  refine ⟨trivial, ?_⟩
  refine ⟨trivial, ?_⟩
  obtain rfl := Option.some.inj h
  exact ⟨⟨trivial, trivial⟩, ⟨trivial, trivial⟩, rfl, rfl⟩
/-! halter/halterlaw18.PipeEnds -/
def halterlaw18_PipeEnds.f (a0 : (List Int)) : Option Bool :=
  if (((List.length a0) : Nat) : Int) > (64 : Int) then
    halterlaw18_sure.f.bind fun t2 =>
    some t2
  else
    (pipe_Open.f ([] : List Int) (0 : Int) (0 : Int) false).bind fun t3 =>
    (pipe_Open.f t3.1 t3.2.1 t3.2.2.1 true).bind fun t4 =>
    (pipe_Write.f t4.1 t4.2.1 t4.2.2.1 a0).bind fun t5 =>
    (pipe_Close.f t5.2.1 t5.2.2.1 t5.2.2.2.1 true).bind fun t6 =>
    (pipe_Read.f t6.1 t6.2.1 t6.2.2.1 (64 : Int)).bind fun t7 =>
    (pipe_Read.f t7.2.1 t7.2.2.1 t7.2.2.2.1 (64 : Int)).bind fun t8 =>
    (pipe_Close.f t5.2.1 t5.2.2.1 t5.2.2.2.1 false).bind fun t9 =>
    (pipe_Write.f t9.1 t9.2.1 t9.2.2.1 [(1 : Int)]).bind fun t10 =>
    if t3.2.2.2 = none then
      if t4.2.2.2 = none then
        if t5.2.2.2.2 = none then
          if t6.2.2.2 = none then
            if t7.2.2.2.2 = none then
              if t8.2.2.2.2 = none then
                if t9.2.2.2 = none then
                  if t5.1 = (((List.length a0) : Nat) : Int) then
                    if (strOfNums t7.1) = (strOfNums a0) then
                      if (((List.length t8.1) : Nat) : Int) = (0 : Int) then
                        if (((List.length t9.1) : Nat) : Int) = (0 : Int) then
                          (num.f t10.2.2.2.2).bind fun t22 =>
                          if t22 = (32 : Int) then
                            halterlaw18_sure.f.bind fun t24 =>
                            some t24
                          else
                            some false
                        else
                          some false
                      else
                        some false
                    else
                      some false
                  else
                    some false
                else
                  some false
              else
                some false
            else
              some false
          else
            some false
        else
          some false
      else
        some false
    else
      some false
def halterlaw18_PipeEnds.R (r : Bool) : Tm := .v (.one (.sc (.bool r)))
theorem halterlaw18_PipeEnds.fun_ {a0 : (List Int)} {r : Bool} (h : halterlaw18_PipeEnds.f a0 = some r) : Fun cfg 5 [.one (.fs (.int .u8) a0 false)] [] (halterlaw18_PipeEnds.R r) [] := by
  unfold halterlaw18_PipeEnds.f at h
  refine fun_of_run cfg_ok (f := 5) (fn := Tryd.f5) Tryd.func5 rfl (by kernel_rfl) (rs := [.tmp 2]) rfl (nt := 131) rfl (l := fin) (k := (.br (.call true [] (Bool) (fun t2 => halterlaw18_sure.R t2) (fun t2 => (.adj [] (.adj [] .nil)))) (.call true [(.int .u8)] ((List Int) × Int × Int × (Option Int)) (fun t3 => pipe_Open.R t3) (fun t3 => (.call true [] ((List Int) × Int × Int × (Option Int)) (fun t4 => pipe_Open.R t4) (fun t4 => (.call true [] (TY1) (fun t5 => pipe_Write.R t5) (fun t5 => (.call true [] ((List Int) × Int × Int × (Option Int)) (fun t6 => pipe_Close.R t6) (fun t6 => (.call true [] (TY0) (fun t7 => pipe_Read.R t7) (fun t7 => (.call true [] (TY0) (fun t8 => pipe_Read.R t8) (fun t8 => (.call true [] ((List Int) × Int × Int × (Option Int)) (fun t9 => pipe_Close.R t9) (fun t9 => (.call true [] (TY1) (fun t10 => pipe_Write.R t10) (fun t10 => (.br (.one true (.one true (.br (.one true (.one true (.br (.one true (.one true (.br (.one true (.one true (.br (.one true (.one true (.br (.one true (.one true (.br (.one true (.one true (.one true (.one true (.br (.one true (.d (.b false) (.one true (.one true (.d (.b false) (.one true (.one true (.br (.one true (.one true (.one true (.br (.one true (.one true (.one true (.one true (.br (.one true (.call true [] (Int) (fun t22 => num.R t22) (fun t22 => (.one true (.one true (.br (.call true [] (Bool) (fun t24 => halterlaw18_sure.R t24) (fun t24 => (.one true (.adj [] (.adj [.drop 0] .nil))))) (.one false (.adj [] (.adj [.drop 0] .nil))))))))) (.one false (.one false (.one false (.one false (.one false (.adj [] (.adj [.drop 0] .nil)))))))))))) (.one false (.one false (.one false (.one false (.one false (.one false (.one false (.one false (.one false (.one false (.adj [] (.adj [.drop 0] .nil)))))))))))))))) (.one false (.one false (.one false (.one false (.one false (.one false (.one false (.one false (.one false (.one false (.one false (.one false (.one false (.one false (.adj [] (.adj [.drop 0] .nil)))))))))))))))))))))))) (.one false (.one false (.one false (.one false (.one false (.one false (.one false (.one false (.one false (.one false (.one false (.one false (.one false (.one false (.one false (.one false (.one false (.one false (.one false (.one false (.adj [] (.adj [.drop 0] .nil))))))))))))))))))))))))))) (.one false (.one false (.one false (.one false (.one false (.one false (.one false (.one false (.one false (.one false (.one false (.one false (.one false (.one false (.one false (.one false (.one false (.one false (.one false (.one false (.one false (.one false (.one false (.one false (.one false (.adj [] (.adj [.drop 0] .nil)))))))))))))))))))))))))))))) (.one false (.one false (.one false (.one false (.one false (.one false (.one false (.one false (.one false (.one false (.one false (.one false (.one false (.one false (.one false (.one false (.one false (.one false (.one false (.one false (.one false (.one false (.one false (.one false (.one false (.one false (.one false (.one false (.adj [] (.adj [.drop 0] .nil))))))))))))))))))))))))))))))))) (.one false (.one false (.one false (.one false (.one false (.one false (.one false (.one false (.one false (.one false (.one false (.one false (.one false (.one false (.one false (.one false (.one false (.one false (.one false (.one false (.one false (.one false (.one false (.one false (.one false (.one false (.one false (.one false (.one false (.one false (.one false (.adj [] (.adj [.drop 0] .nil)))))))))))))))))))))))))))))))))))) (.one false (.one false (.one false (.one false (.one false (.one false (.one false (.one false (.one false (.one false (.one false (.one false (.one false (.one false (.one false (.one false (.one false (.one false (.one false (.one false (.one false (.one false (.one false (.one false (.one false (.one false (.one false (.one false (.one false (.one false (.one false (.one false (.one false (.one false (.adj [] (.adj [.drop 0] .nil))))))))))))))))))))))))))))))))))))))) (.one false (.one false (.one false (.one false (.one false (.one false (.one false (.one false (.one false (.one false (.one false (.one false (.one false (.one false (.one false (.one false (.one false (.one false (.one false (.one false (.one false (.one false (.one false (.one false (.one false (.one false (.one false (.one false (.one false (.one false (.one false (.one false (.one false (.one false (.one false (.one false (.one false (.adj [] (.adj [.drop 0] .nil)))))))))))))))))))))))))))))))))))))))))) (.one false (.one false (.one false (.one false (.one false (.one false (.one false (.one false (.one false (.one false (.one false (.one false (.one false (.one false (.one false (.one false (.one false (.one false (.one false (.one false (.one false (.one false (.one false (.one false (.one false (.one false (.one false (.one false (.one false (.one false (.one false (.one false (.one false (.one false (.one false (.one false (.one false (.one false (.one false (.one false (.adj [] (.adj [.drop 0] .nil))))))))))))))))))))))))))))))))))))))))))))) (.one false (.one false (.one false (.one false (.one false (.one false (.one false (.one false (.one false (.one false (.one false (.one false (.one false (.one false (.one false (.one false (.one false (.one false (.one false (.one false (.one false (.one false (.one false (.one false (.one false (.one false (.one false (.one false (.one false (.one false (.one false (.one false (.one false (.one false (.one false (.one false (.one false (.one false (.one false (.one false (.one false (.one false (.one false (.adj [] (.adj [.drop 0] .nil)))))))))))))))))))))))))))))))))))))))))))))))))))))))))))))))) (to_goal (q := (True) ∧ (True) ∧ (((decide ((((List.length a0) : Nat) : Int) > (64 : Int))) = true → (∃ t2 : Bool, (Fun cfg 10 [] [] (halterlaw18_sure.R t2) [] ∧ True) ∧ (True ∧ ((True) ∧ (True) ∧ (.v (.one (.sc (.bool t2))) : Tm) = halterlaw18_PipeEnds.R r ∧ ([] : List Box) = [])))) ∧ ((decide ((((List.length a0) : Nat) : Int) > (64 : Int))) = false → (∃ t3 : (List Int) × Int × Int × (Option Int), (Fun cfg 6 [.agg [.c (.fs (.int .u8) ([] : List Int) false), .c (.sc (.int .i64 (0 : Int))), .c (.sc (.int .i64 (0 : Int)))], .one (.sc (.bool false))] [] (pipe_Open.R t3) [] ∧ True) ∧ (True) ∧ (True) ∧ (∃ t4 : (List Int) × Int × Int × (Option Int), (Fun cfg 6 [.agg [.c (.fs (.int .u8) t3.1 false), .c (.sc (.int .i64 t3.2.1)), .c (.sc (.int .i64 (p2 t3)))], .one (.sc (.bool true))] [] (pipe_Open.R t4) [] ∧ True) ∧ (True) ∧ (True) ∧ (∃ t5 : TY1, (Fun cfg 7 [.agg [.c (.fs (.int .u8) t4.1 false), .c (.sc (.int .i64 t4.2.1)), .c (.sc (.int .i64 (p2 t4)))], .one (.fs (.int .u8) a0 false)] [] (pipe_Write.R t5) [] ∧ True) ∧ (True) ∧ (True) ∧ (∃ t6 : (List Int) × Int × Int × (Option Int), (Fun cfg 15 [.agg [.c (.fs (.int .u8) t5.2.1 false), .c (.sc (.int .i64 (p2 t5))), .c (.sc (.int .i64 (p3 t5)))], .one (.sc (.bool true))] [] (pipe_Close.R t6) [] ∧ True) ∧ (True) ∧ (True) ∧ (∃ t7 : TY0, (Fun cfg 9 [.agg [.c (.fs (.int .u8) t6.1 false), .c (.sc (.int .i64 t6.2.1)), .c (.sc (.int .i64 (p2 t6)))], .one (.sc (.int .i64 (64 : Int)))] [] (pipe_Read.R t7) [] ∧ True) ∧ (True) ∧ (True) ∧ (∃ t8 : TY0, (Fun cfg 9 [.agg [.c (.fs (.int .u8) t7.2.1 false), .c (.sc (.int .i64 (p2 t7))), .c (.sc (.int .i64 (p3 t7)))], .one (.sc (.int .i64 (64 : Int)))] [] (pipe_Read.R t8) [] ∧ True) ∧ (True) ∧ (True) ∧ (∃ t9 : (List Int) × Int × Int × (Option Int), (Fun cfg 15 [.agg [.c (.fs (.int .u8) t5.2.1 false), .c (.sc (.int .i64 (p2 t5))), .c (.sc (.int .i64 (p3 t5)))], .one (.sc (.bool false))] [] (pipe_Close.R t9) [] ∧ True) ∧ (True) ∧ (True) ∧ (∃ t10 : TY1, ((0 = 0 ∧ 1 = 1) ∧ Fun cfg 7 [.agg [.c (.fs (.int .u8) t9.1 false), .c (.sc (.int .i64 t9.2.1)), .c (.sc (.int .i64 (p2 t9)))], .one (.fs (.int .u8) [(1 : Int)] false)] [] (pipe_Write.R t10) [] ∧ True) ∧ (True) ∧ (True) ∧ (((Option.isNone (z3 t3)) = true → ((Option.isNone (z3 t3)) = true ∧ (True) ∧ ((Option.isNone (z3 t3)) = true ∧ (((Option.isNone (z3 t4)) = true → ((Option.isNone (z3 t4)) = true ∧ (True) ∧ ((Option.isNone (z3 t4)) = true ∧ (((Option.isNone (z4 t5)) = true → ((Option.isNone (z4 t5)) = true ∧ (True) ∧ ((Option.isNone (z4 t5)) = true ∧ (((Option.isNone (z3 t6)) = true → ((Option.isNone (z3 t6)) = true ∧ (True) ∧ ((Option.isNone (z3 t6)) = true ∧ (((Option.isNone (z4 t7)) = true → ((Option.isNone (z4 t7)) = true ∧ (True) ∧ ((Option.isNone (z4 t7)) = true ∧ (((Option.isNone (z4 t8)) = true → ((Option.isNone (z4 t8)) = true ∧ (True) ∧ ((Option.isNone (z4 t8)) = true ∧ (((Option.isNone (z3 t9)) = true → ((Option.isNone (z3 t9)) = true ∧ ((Option.isNone (z3 t9)) = true ∧ (True) ∧ ((Option.isNone (z3 t9)) = true ∧ (True) ∧ ((Option.isNone (z3 t9)) = true ∧ (((t5.1 == (((List.length a0) : Nat) : Int)) = true → ((t5.1 == (((List.length a0) : Nat) : Int)) = true ∧ (True) ∧ ((t5.1 == (((List.length a0) : Nat) : Int)) = true ∧ ((t5.1 == (((List.length a0) : Nat) : Int)) = true ∧ (True) ∧ ((t5.1 == (((List.length a0) : Nat) : Int)) = true ∧ (True) ∧ ((t5.1 == (((List.length a0) : Nat) : Int)) = true ∧ ((((strOfNums t7.1).toList == (strOfNums a0).toList) = true → (((strOfNums t7.1).toList == (strOfNums a0).toList) = true ∧ (True) ∧ (((strOfNums t7.1).toList == (strOfNums a0).toList) = true ∧ (True) ∧ (((strOfNums t7.1).toList == (strOfNums a0).toList) = true ∧ ((((((List.length t8.1) : Nat) : Int) == (0 : Int)) = true → (((((List.length t8.1) : Nat) : Int) == (0 : Int)) = true ∧ (True) ∧ (((((List.length t8.1) : Nat) : Int) == (0 : Int)) = true ∧ (True) ∧ (((((List.length t8.1) : Nat) : Int) == (0 : Int)) = true ∧ (True) ∧ (((((List.length t8.1) : Nat) : Int) == (0 : Int)) = true ∧ ((((((List.length t9.1) : Nat) : Int) == (0 : Int)) = true → (((((List.length t9.1) : Nat) : Int) == (0 : Int)) = true ∧ (∃ t22 : Int, (Fun cfg 8 [.one (.err (z4 t10))] [] (num.R t22) [] ∧ True) ∧ (((((List.length t9.1) : Nat) : Int) == (0 : Int)) = true ∧ (True) ∧ (((((List.length t9.1) : Nat) : Int) == (0 : Int)) = true ∧ (((t22 == (32 : Int)) = true → (∃ t24 : Bool, (Fun cfg 10 [] [] (halterlaw18_sure.R t24) [] ∧ True) ∧ ((t22 == (32 : Int)) = true ∧ (True ∧ ((True) ∧ ((True) ∧ True) ∧ (.v (.one (.sc (.bool t24))) : Tm) = halterlaw18_PipeEnds.R r ∧ ([] : List Box) = []))))) ∧ ((t22 == (32 : Int)) = false → ((t22 == (32 : Int)) = false ∧ (True ∧ ((True) ∧ ((True) ∧ True) ∧ (.v (.one (.sc (.bool false))) : Tm) = halterlaw18_PipeEnds.R r ∧ ([] : List Box) = [])))))))))) ∧ (((((List.length t9.1) : Nat) : Int) == (0 : Int)) = false → (((((List.length t9.1) : Nat) : Int) == (0 : Int)) = false ∧ (((((List.length t9.1) : Nat) : Int) == (0 : Int)) = false ∧ (((((List.length t9.1) : Nat) : Int) == (0 : Int)) = false ∧ (false = false ∧ (false = false ∧ (True ∧ ((True) ∧ ((True) ∧ True) ∧ (.v (.one (.sc (.bool false))) : Tm) = halterlaw18_PipeEnds.R r ∧ ([] : List Box) = [])))))))))))))) ∧ (((((List.length t8.1) : Nat) : Int) == (0 : Int)) = false → (((((List.length t8.1) : Nat) : Int) == (0 : Int)) = false ∧ (((((List.length t8.1) : Nat) : Int) == (0 : Int)) = false ∧ (((((List.length t8.1) : Nat) : Int) == (0 : Int)) = false ∧ (((((List.length t8.1) : Nat) : Int) == (0 : Int)) = false ∧ (false = false ∧ (false = false ∧ (false = false ∧ (false = false ∧ (false = false ∧ (false = false ∧ (True ∧ ((True) ∧ ((True) ∧ True) ∧ (.v (.one (.sc (.bool false))) : Tm) = halterlaw18_PipeEnds.R r ∧ ([] : List Box) = [])))))))))))))))))) ∧ (((strOfNums t7.1).toList == (strOfNums a0).toList) = false → (((strOfNums t7.1).toList == (strOfNums a0).toList) = false ∧ (((strOfNums t7.1).toList == (strOfNums a0).toList) = false ∧ (((strOfNums t7.1).toList == (strOfNums a0).toList) = false ∧ (false = false ∧ (false = false ∧ (false = false ∧ (false = false ∧ (false = false ∧ (false = false ∧ (false = false ∧ (false = false ∧ (false = false ∧ (false = false ∧ (false = false ∧ (True ∧ ((True) ∧ ((True) ∧ True) ∧ (.v (.one (.sc (.bool false))) : Tm) = halterlaw18_PipeEnds.R r ∧ ([] : List Box) = [])))))))))))))))))))))))) ∧ ((t5.1 == (((List.length a0) : Nat) : Int)) = false → ((t5.1 == (((List.length a0) : Nat) : Int)) = false ∧ ((t5.1 == (((List.length a0) : Nat) : Int)) = false ∧ ((t5.1 == (((List.length a0) : Nat) : Int)) = false ∧ ((t5.1 == (((List.length a0) : Nat) : Int)) = false ∧ ((t5.1 == (((List.length a0) : Nat) : Int)) = false ∧ (false = false ∧ (false = false ∧ (false = false ∧ (false = false ∧ (false = false ∧ (false = false ∧ (false = false ∧ (false = false ∧ (false = false ∧ (false = false ∧ (false = false ∧ (false = false ∧ (false = false ∧ (false = false ∧ (false = false ∧ (True ∧ ((True) ∧ ((True) ∧ True) ∧ (.v (.one (.sc (.bool false))) : Tm) = halterlaw18_PipeEnds.R r ∧ ([] : List Box) = []))))))))))))))))))))))))))))) ∧ ((Option.isNone (z3 t9)) = false → ((Option.isNone (z3 t9)) = false ∧ ((Option.isNone (z3 t9)) = false ∧ ((Option.isNone (z3 t9)) = false ∧ ((Option.isNone (z3 t9)) = false ∧ (false = false ∧ (false = false ∧ (false = false ∧ (false = false ∧ (false = false ∧ (false = false ∧ (false = false ∧ (false = false ∧ (false = false ∧ (false = false ∧ (false = false ∧ (false = false ∧ (false = false ∧ (false = false ∧ (false = false ∧ (false = false ∧ (false = false ∧ (false = false ∧ (false = false ∧ (false = false ∧ (false = false ∧ (True ∧ ((True) ∧ ((True) ∧ True) ∧ (.v (.one (.sc (.bool false))) : Tm) = halterlaw18_PipeEnds.R r ∧ ([] : List Box) = [])))))))))))))))))))))))))))))))) ∧ ((Option.isNone (z4 t8)) = false → ((Option.isNone (z4 t8)) = false ∧ ((Option.isNone (z4 t8)) = false ∧ (false = false ∧ (false = false ∧ (false = false ∧ (false = false ∧ (false = false ∧ (false = false ∧ (false = false ∧ (false = false ∧ (false = false ∧ (false = false ∧ (false = false ∧ (false = false ∧ (false = false ∧ (false = false ∧ (false = false ∧ (false = false ∧ (false = false ∧ (false = false ∧ (false = false ∧ (false = false ∧ (false = false ∧ (false = false ∧ (false = false ∧ (false = false ∧ (false = false ∧ (false = false ∧ (True ∧ ((True) ∧ ((True) ∧ True) ∧ (.v (.one (.sc (.bool false))) : Tm) = halterlaw18_PipeEnds.R r ∧ ([] : List Box) = []))))))))))))))))))))))))))))))))))) ∧ ((Option.isNone (z4 t7)) = false → ((Option.isNone (z4 t7)) = false ∧ ((Option.isNone (z4 t7)) = false ∧ (false = false ∧ (false = false ∧ (false = false ∧ (false = false ∧ (false = false ∧ (false = false ∧ (false = false ∧ (false = false ∧ (false = false ∧ (false = false ∧ (false = false ∧ (false = false ∧ (false = false ∧ (false = false ∧ (false = false ∧ (false = false ∧ (false = false ∧ (false = false ∧ (false = false ∧ (false = false ∧ (false = false ∧ (false = false ∧ (false = false ∧ (false = false ∧ (false = false ∧ (false = false ∧ (false = false ∧ (false = false ∧ (false = false ∧ (True ∧ ((True) ∧ ((True) ∧ True) ∧ (.v (.one (.sc (.bool false))) : Tm) = halterlaw18_PipeEnds.R r ∧ ([] : List Box) = [])))))))))))))))))))))))))))))))))))))) ∧ ((Option.isNone (z3 t6)) = false → ((Option.isNone (z3 t6)) = false ∧ ((Option.isNone (z3 t6)) = false ∧ (false = false ∧ (false = false ∧ (false = false ∧ (false = false ∧ (false = false ∧ (false = false ∧ (false = false ∧ (false = false ∧ (false = false ∧ (false = false ∧ (false = false ∧ (false = false ∧ (false = false ∧ (false = false ∧ (false = false ∧ (false = false ∧ (false = false ∧ (false = false ∧ (false = false ∧ (false = false ∧ (false = false ∧ (false = false ∧ (false = false ∧ (false = false ∧ (false = false ∧ (false = false ∧ (false = false ∧ (false = false ∧ (false = false ∧ (false = false ∧ (false = false ∧ (false = false ∧ (True ∧ ((True) ∧ ((True) ∧ True) ∧ (.v (.one (.sc (.bool false))) : Tm) = halterlaw18_PipeEnds.R r ∧ ([] : List Box) = []))))))))))))))))))))))))))))))))))))))))) ∧ ((Option.isNone (z4 t5)) = false → ((Option.isNone (z4 t5)) = false ∧ ((Option.isNone (z4 t5)) = false ∧ (false = false ∧ (false = false ∧ (false = false ∧ (false = false ∧ (false = false ∧ (false = false ∧ (false = false ∧ (false = false ∧ (false = false ∧ (false = false ∧ (false = false ∧ (false = false ∧ (false = false ∧ (false = false ∧ (false = false ∧ (false = false ∧ (false = false ∧ (false = false ∧ (false = false ∧ (false = false ∧ (false = false ∧ (false = false ∧ (false = false ∧ (false = false ∧ (false = false ∧ (false = false ∧ (false = false ∧ (false = false ∧ (false = false ∧ (false = false ∧ (false = false ∧ (false = false ∧ (false = false ∧ (false = false ∧ (false = false ∧ (True ∧ ((True) ∧ ((True) ∧ True) ∧ (.v (.one (.sc (.bool false))) : Tm) = halterlaw18_PipeEnds.R r ∧ ([] : List Box) = [])))))))))))))))))))))))))))))))))))))))))))) ∧ ((Option.isNone (z3 t4)) = false → ((Option.isNone (z3 t4)) = false ∧ ((Option.isNone (z3 t4)) = false ∧ (false = false ∧ (false = false ∧ (false = false ∧ (false = false ∧ (false = false ∧ (false = false ∧ (false = false ∧ (false = false ∧ (false = false ∧ (false = false ∧ (false = false ∧ (false = false ∧ (false = false ∧ (false = false ∧ (false = false ∧ (false = false ∧ (false = false ∧ (false = false ∧ (false = false ∧ (false = false ∧ (false = false ∧ (false = false ∧ (false = false ∧ (false = false ∧ (false = false ∧ (false = false ∧ (false = false ∧ (false = false ∧ (false = false ∧ (false = false ∧ (false = false ∧ (false = false ∧ (false = false ∧ (false = false ∧ (false = false ∧ (false = false ∧ (false = false ∧ (false = false ∧ (True ∧ ((True) ∧ ((True) ∧ True) ∧ (.v (.one (.sc (.bool false))) : Tm) = halterlaw18_PipeEnds.R r ∧ ([] : List Box) = []))))))))))))))))))))))))))))))))))))))))))))))) ∧ ((Option.isNone (z3 t3)) = false → ((Option.isNone (z3 t3)) = false ∧ ((Option.isNone (z3 t3)) = false ∧ (false = false ∧ (false = false ∧ (false = false ∧ (false = false ∧ (false = false ∧ (false = false ∧ (false = false ∧ (false = false ∧ (false = false ∧ (false = false ∧ (false = false ∧ (false = false ∧ (false = false ∧ (false = false ∧ (false = false ∧ (false = false ∧ (false = false ∧ (false = false ∧ (false = false ∧ (false = false ∧ (false = false ∧ (false = false ∧ (false = false ∧ (false = false ∧ (false = false ∧ (false = false ∧ (false = false ∧ (false = false ∧ (false = false ∧ (false = false ∧ (false = false ∧ (false = false ∧ (false = false ∧ (false = false ∧ (false = false ∧ (false = false ∧ (false = false ∧ (false = false ∧ (false = false ∧ (false = false ∧ (false = false ∧ (True ∧ ((True) ∧ ((True) ∧ True) ∧ (.v (.one (.sc (.bool false))) : Tm) = halterlaw18_PipeEnds.R r ∧ ([] : List Box) = [])))))))))))))))))))))))))))))))))))))))))))))))))))))))))) (by kernel_rfl) ?_)
  refine ⟨trivial, ?_⟩
  refine ⟨trivial, ?_⟩
  refine ⟨fun b1 => ?_, fun b1 => ?_⟩
  · rw [if_pos (of_decide_eq_true b1)] at h
    obtain ⟨t2, ht2, h⟩ := of_bind h
    refine ⟨t2, ⟨halterlaw18_sure.fun_ ht2, trivial⟩, ?_⟩
    refine ⟨trivial, ?_⟩
    obtain rfl := Option.some.inj h
    exact ⟨trivial, trivial, rfl, rfl⟩
  · rw [if_neg (of_decide_eq_false b1)] at h
    obtain ⟨t3, ht3, h⟩ := of_bind h
    refine ⟨t3, ⟨pipe_Open.fun_ ht3, trivial⟩, ?_⟩
    refine ⟨trivial, ?_⟩
    refine ⟨trivial, ?_⟩
    obtain ⟨t4, ht4, h⟩ := of_bind h
    refine ⟨t4, ⟨pipe_Open.fun_ ht4, trivial⟩, ?_⟩
    refine ⟨trivial, ?_⟩
    refine ⟨trivial, ?_⟩
    obtain ⟨t5, ht5, h⟩ := of_bind h
    refine ⟨t5, ⟨pipe_Write.fun_ ht5, trivial⟩, ?_⟩
    refine ⟨trivial, ?_⟩
    refine ⟨trivial, ?_⟩
    obtain ⟨t6, ht6, h⟩ := of_bind h
    refine ⟨t6, ⟨pipe_Close.fun_ ht6, trivial⟩, ?_⟩
    refine ⟨trivial, ?_⟩
    refine ⟨trivial, ?_⟩
    obtain ⟨t7, ht7, h⟩ := of_bind h
    refine ⟨t7, ⟨pipe_Read.fun_ ht7, trivial⟩, ?_⟩
    refine ⟨trivial, ?_⟩
    refine ⟨trivial, ?_⟩
    obtain ⟨t8, ht8, h⟩ := of_bind h
    refine ⟨t8, ⟨pipe_Read.fun_ ht8, trivial⟩, ?_⟩
    refine ⟨trivial, ?_⟩
    refine ⟨trivial, ?_⟩
    obtain ⟨t9, ht9, h⟩ := of_bind h
    refine ⟨t9, ⟨pipe_Close.fun_ ht9, trivial⟩, ?_⟩
    refine ⟨trivial, ?_⟩
    refine ⟨trivial, ?_⟩
    obtain ⟨t10, ht10, h⟩ := of_bind h
    refine ⟨t10, ⟨⟨rfl, rfl⟩, pipe_Write.fun_ ht10, trivial⟩, ?_⟩
    refine ⟨trivial, ?_⟩
    refine ⟨trivial, ?_⟩
    refine ⟨fun b11 => ?_, fun b11 => ?_⟩
    · rw [if_pos (none_t b11)] at h
      refine ⟨b11, ?_⟩
      refine ⟨trivial, ?_⟩
      refine ⟨b11, ?_⟩
      refine ⟨fun b12 => ?_, fun b12 => ?_⟩
      · rw [if_pos (none_t b12)] at h
        refine ⟨b12, ?_⟩
        refine ⟨trivial, ?_⟩
        refine ⟨b12, ?_⟩
        refine ⟨fun b13 => ?_, fun b13 => ?_⟩
        · rw [if_pos (none_t b13)] at h
          refine ⟨b13, ?_⟩
          refine ⟨trivial, ?_⟩
          refine ⟨b13, ?_⟩
          refine ⟨fun b14 => ?_, fun b14 => ?_⟩
          · rw [if_pos (none_t b14)] at h
            refine ⟨b14, ?_⟩
            refine ⟨trivial, ?_⟩
            refine ⟨b14, ?_⟩
            refine ⟨fun b15 => ?_, fun b15 => ?_⟩
            · rw [if_pos (none_t b15)] at h
              refine ⟨b15, ?_⟩
              refine ⟨trivial, ?_⟩
              refine ⟨b15, ?_⟩
              refine ⟨fun b16 => ?_, fun b16 => ?_⟩
              · rw [if_pos (none_t b16)] at h
                refine ⟨b16, ?_⟩
                refine ⟨trivial, ?_⟩
                refine ⟨b16, ?_⟩
                refine ⟨fun b17 => ?_, fun b17 => ?_⟩
                · rw [if_pos (none_t b17)] at h
                  refine ⟨b17, ?_⟩
                  refine ⟨b17, ?_⟩
                  refine ⟨trivial, ?_⟩
                  refine ⟨b17, ?_⟩
                  refine ⟨trivial, ?_⟩
                  refine ⟨b17, ?_⟩
                  refine ⟨fun b18 => ?_, fun b18 => ?_⟩
                  · rw [if_pos (beq_t b18)] at h
                    refine ⟨b18, ?_⟩
                    refine ⟨trivial, ?_⟩
                    refine ⟨b18, ?_⟩
                    refine ⟨b18, ?_⟩
                    refine ⟨trivial, ?_⟩
                    refine ⟨b18, ?_⟩
                    refine ⟨trivial, ?_⟩
                    refine ⟨b18, ?_⟩
                    refine ⟨fun b19 => ?_, fun b19 => ?_⟩
                    · rw [if_pos (str_t b19)] at h
                      refine ⟨b19, ?_⟩
                      refine ⟨trivial, ?_⟩
                      refine ⟨b19, ?_⟩
                      refine ⟨trivial, ?_⟩
                      refine ⟨b19, ?_⟩
                      refine ⟨fun b20 => ?_, fun b20 => ?_⟩
                      · rw [if_pos (beq_t b20)] at h
                        refine ⟨b20, ?_⟩
                        refine ⟨trivial, ?_⟩
                        refine ⟨b20, ?_⟩
                        refine ⟨trivial, ?_⟩
                        refine ⟨b20, ?_⟩
                        refine ⟨trivial, ?_⟩
                        refine ⟨b20, ?_⟩
                        refine ⟨fun b21 => ?_, fun b21 => ?_⟩
                        · rw [if_pos (beq_t b21)] at h
                          refine ⟨b21, ?_⟩
                          obtain ⟨t22, ht22, h⟩ := of_bind h
                          refine ⟨t22, ⟨num.fun_ ht22, trivial⟩, ?_⟩
                          refine ⟨b21, ?_⟩
                          refine ⟨trivial, ?_⟩
                          refine ⟨b21, ?_⟩
                          refine ⟨fun b23 => ?_, fun b23 => ?_⟩
                          · rw [if_pos (beq_t b23)] at h
                            obtain ⟨t24, ht24, h⟩ := of_bind h
                            refine ⟨t24, ⟨halterlaw18_sure.fun_ ht24, trivial⟩, ?_⟩
                            refine ⟨b23, ?_⟩
                            refine ⟨trivial, ?_⟩
                            obtain rfl := Option.some.inj h
                            exact ⟨trivial, ⟨trivial, trivial⟩, rfl, rfl⟩
                          · rw [if_neg (beq_f b23)] at h
                            refine ⟨b23, ?_⟩
                            refine ⟨trivial, ?_⟩
                            obtain rfl := Option.some.inj h
                            exact ⟨trivial, ⟨trivial, trivial⟩, rfl, rfl⟩
                        · rw [if_neg (beq_f b21)] at h
                          refine ⟨b21, ?_⟩
                          refine ⟨b21, ?_⟩
                          refine ⟨b21, ?_⟩
                          refine ⟨rfl, ?_⟩
                          refine ⟨rfl, ?_⟩
                          refine ⟨trivial, ?_⟩
                          obtain rfl := Option.some.inj h
                          exact ⟨trivial, ⟨trivial, trivial⟩, rfl, rfl⟩
                      · rw [if_neg (beq_f b20)] at h
                        refine ⟨b20, ?_⟩
                        refine ⟨b20, ?_⟩
                        refine ⟨b20, ?_⟩
                        refine ⟨b20, ?_⟩
                        refine ⟨rfl, ?_⟩
                        refine ⟨rfl, ?_⟩
                        refine ⟨rfl, ?_⟩
                        refine ⟨rfl, ?_⟩
                        refine ⟨rfl, ?_⟩
                        refine ⟨rfl, ?_⟩
                        refine ⟨trivial, ?_⟩
                        obtain rfl := Option.some.inj h
                        exact ⟨trivial, ⟨trivial, trivial⟩, rfl, rfl⟩
                    · rw [if_neg (str_f b19)] at h
                      refine ⟨b19, ?_⟩
                      refine ⟨b19, ?_⟩
                      refine ⟨b19, ?_⟩
                      refine ⟨rfl, ?_⟩
                      refine ⟨rfl, ?_⟩
                      refine ⟨rfl, ?_⟩
                      refine ⟨rfl, ?_⟩
                      refine ⟨rfl, ?_⟩
                      refine ⟨rfl, ?_⟩
                      refine ⟨rfl, ?_⟩
                      refine ⟨rfl, ?_⟩
                      refine ⟨rfl, ?_⟩
                      refine ⟨rfl, ?_⟩
                      refine ⟨rfl, ?_⟩
                      refine ⟨trivial, ?_⟩
                      obtain rfl := Option.some.inj h
                      exact ⟨trivial, ⟨trivial, trivial⟩, rfl, rfl⟩
                  · rw [if_neg (beq_f b18)] at h
                    refine ⟨b18, ?_⟩
                    refine ⟨b18, ?_⟩
                    refine ⟨b18, ?_⟩
                    refine ⟨b18, ?_⟩
                    refine ⟨b18, ?_⟩
                    refine ⟨rfl, ?_⟩
                    refine ⟨rfl, ?_⟩
                    refine ⟨rfl, ?_⟩
                    refine ⟨rfl, ?_⟩
                    refine ⟨rfl, ?_⟩
                    refine ⟨rfl, ?_⟩
                    refine ⟨rfl, ?_⟩
                    refine ⟨rfl, ?_⟩
                    refine ⟨rfl, ?_⟩
                    refine ⟨rfl, ?_⟩
                    refine ⟨rfl, ?_⟩
                    refine ⟨rfl, ?_⟩
                    refine ⟨rfl, ?_⟩
                    refine ⟨rfl, ?_⟩
                    refine ⟨rfl, ?_⟩
                    refine ⟨trivial, ?_⟩
                    obtain rfl := Option.some.inj h
                    exact ⟨trivial, ⟨trivial, trivial⟩, rfl, rfl⟩
                · rw [if_neg (none_f b17)] at h
                  refine ⟨b17, ?_⟩
                  refine ⟨b17, ?_⟩
                  refine ⟨b17, ?_⟩
                  refine ⟨b17, ?_⟩
                  refine ⟨rfl, ?_⟩
                  refine ⟨rfl, ?_⟩
                  refine ⟨rfl, ?_⟩
                  refine ⟨rfl, ?_⟩
                  refine ⟨rfl, ?_⟩
                  refine ⟨rfl, ?_⟩
                  refine ⟨rfl, ?_⟩
                  refine ⟨rfl, ?_⟩
                  refine ⟨rfl, ?_⟩
                  refine ⟨rfl, ?_⟩
                  refine ⟨rfl, ?_⟩
                  refine ⟨rfl, ?_⟩
                  refine ⟨rfl, ?_⟩
                  refine ⟨rfl, ?_⟩
                  refine ⟨rfl, ?_⟩
                  refine ⟨rfl, ?_⟩
                  refine ⟨rfl, ?_⟩
                  refine ⟨rfl, ?_⟩
                  refine ⟨rfl, ?_⟩
                  refine ⟨rfl, ?_⟩
                  refine ⟨rfl, ?_⟩
                  refine ⟨trivial, ?_⟩
                  obtain rfl := Option.some.inj h
                  exact ⟨trivial, ⟨trivial, trivial⟩, rfl, rfl⟩
              · rw [if_neg (none_f b16)] at h
                refine ⟨b16, ?_⟩
                refine ⟨b16, ?_⟩
                refine ⟨rfl, ?_⟩
                refine ⟨rfl, ?_⟩
                refine ⟨rfl, ?_⟩
                refine ⟨rfl, ?_⟩
                refine ⟨rfl, ?_⟩
                refine ⟨rfl, ?_⟩
                refine ⟨rfl, ?_⟩
                refine ⟨rfl, ?_⟩
                refine ⟨rfl, ?_⟩
                refine ⟨rfl, ?_⟩
                refine ⟨rfl, ?_⟩
                refine ⟨rfl, ?_⟩
                refine ⟨rfl, ?_⟩
                refine ⟨rfl, ?_⟩
                refine ⟨rfl, ?_⟩
                refine ⟨rfl, ?_⟩
                refine ⟨rfl, ?_⟩
                refine ⟨rfl, ?_⟩
                refine ⟨rfl, ?_⟩
                refine ⟨rfl, ?_⟩
                refine ⟨rfl, ?_⟩
                refine ⟨rfl, ?_⟩
                refine ⟨rfl, ?_⟩
                refine ⟨rfl, ?_⟩
                refine ⟨rfl, ?_⟩
                refine ⟨rfl, ?_⟩
                refine ⟨trivial, ?_⟩
                obtain rfl := Option.some.inj h
                exact ⟨trivial, ⟨trivial, trivial⟩, rfl, rfl⟩
            · rw [if_neg (none_f b15)] at h
              refine ⟨b15, ?_⟩
              refine ⟨b15, ?_⟩
              refine ⟨rfl, ?_⟩
              refine ⟨rfl, ?_⟩
              refine ⟨rfl, ?_⟩
              refine ⟨rfl, ?_⟩
              refine ⟨rfl, ?_⟩
              refine ⟨rfl, ?_⟩
              refine ⟨rfl, ?_⟩
              refine ⟨rfl, ?_⟩
              refine ⟨rfl, ?_⟩
              refine ⟨rfl, ?_⟩
              refine ⟨rfl, ?_⟩
              refine ⟨rfl, ?_⟩
              refine ⟨rfl, ?_⟩
              refine ⟨rfl, ?_⟩
              refine ⟨rfl, ?_⟩
              refine ⟨rfl, ?_⟩
              refine ⟨rfl, ?_⟩
              refine ⟨rfl, ?_⟩
              refine ⟨rfl, ?_⟩
              refine ⟨rfl, ?_⟩
              refine ⟨rfl, ?_⟩
              refine ⟨rfl, ?_⟩
              refine ⟨rfl, ?_⟩
              refine ⟨rfl, ?_⟩
              refine ⟨rfl, ?_⟩
              refine ⟨rfl, ?_⟩
              refine ⟨rfl, ?_⟩
              refine ⟨rfl, ?_⟩
              refine ⟨rfl, ?_⟩
              refine ⟨trivial, ?_⟩
              obtain rfl := Option.some.inj h
              exact ⟨trivial, ⟨trivial, trivial⟩, rfl, rfl⟩
          · rw [if_neg (none_f b14)] at h
            refine ⟨b14, ?_⟩
            refine ⟨b14, ?_⟩
            refine ⟨rfl, ?_⟩
            refine ⟨rfl, ?_⟩
            refine ⟨rfl, ?_⟩
            refine ⟨rfl, ?_⟩
            refine ⟨rfl, ?_⟩
            refine ⟨rfl, ?_⟩
            refine ⟨rfl, ?_⟩
            refine ⟨rfl, ?_⟩
            refine ⟨rfl, ?_⟩
            refine ⟨rfl, ?_⟩
            refine ⟨rfl, ?_⟩
            refine ⟨rfl, ?_⟩
            refine ⟨rfl, ?_⟩
            refine ⟨rfl, ?_⟩
            refine ⟨rfl, ?_⟩
            refine ⟨rfl, ?_⟩
            refine ⟨rfl, ?_⟩
            refine ⟨rfl, ?_⟩
            refine ⟨rfl, ?_⟩
            refine ⟨rfl, ?_⟩
            refine ⟨rfl, ?_⟩
            refine ⟨rfl, ?_⟩
            refine ⟨rfl, ?_⟩
            refine ⟨rfl, ?_⟩
            refine ⟨rfl, ?_⟩
            refine ⟨rfl, ?_⟩
            refine ⟨rfl, ?_⟩
            refine ⟨rfl, ?_⟩
            refine ⟨rfl, ?_⟩
            refine ⟨rfl, ?_⟩
            refine ⟨rfl, ?_⟩
            refine ⟨rfl, ?_⟩
            refine ⟨trivial, ?_⟩
            obtain rfl := Option.some.inj h
            exact ⟨trivial, ⟨trivial, trivial⟩, rfl, rfl⟩
        · rw [if_neg (none_f b13)] at h
          refine ⟨b13, ?_⟩
          refine ⟨b13, ?_⟩
          refine ⟨rfl, ?_⟩
          refine ⟨rfl, ?_⟩
          refine ⟨rfl, ?_⟩
          refine ⟨rfl, ?_⟩
          refine ⟨rfl, ?_⟩
          refine ⟨rfl, ?_⟩
          refine ⟨rfl, ?_⟩
          refine ⟨rfl, ?_⟩
          refine ⟨rfl, ?_⟩
          refine ⟨rfl, ?_⟩
          refine ⟨rfl, ?_⟩
          refine ⟨rfl, ?_⟩
          refine ⟨rfl, ?_⟩
          refine ⟨rfl, ?_⟩
          refine ⟨rfl, ?_⟩
          refine ⟨rfl, ?_⟩
          refine ⟨rfl, ?_⟩
          refine ⟨rfl, ?_⟩
          refine ⟨rfl, ?_⟩
          refine ⟨rfl, ?_⟩
          refine ⟨rfl, ?_⟩
          refine ⟨rfl, ?_⟩
          refine ⟨rfl, ?_⟩
          refine ⟨rfl, ?_⟩
          refine ⟨rfl, ?_⟩
          refine ⟨rfl, ?_⟩
          refine ⟨rfl, ?_⟩
          refine ⟨rfl, ?_⟩
          refine ⟨rfl, ?_⟩
          refine ⟨rfl, ?_⟩
          refine ⟨rfl, ?_⟩
          refine ⟨rfl, ?_⟩
          refine ⟨rfl, ?_⟩
          refine ⟨rfl, ?_⟩
          refine ⟨rfl, ?_⟩
          refine ⟨trivial, ?_⟩
          obtain rfl := Option.some.inj h
          exact ⟨trivial, ⟨trivial, trivial⟩, rfl, rfl⟩
      · rw [if_neg (none_f b12)] at h
        refine ⟨b12, ?_⟩
        refine ⟨b12, ?_⟩
        refine ⟨rfl, ?_⟩
        refine ⟨rfl, ?_⟩
        refine ⟨rfl, ?_⟩
        refine ⟨rfl, ?_⟩
        refine ⟨rfl, ?_⟩
        refine ⟨rfl, ?_⟩
        refine ⟨rfl, ?_⟩
        refine ⟨rfl, ?_⟩
        refine ⟨rfl, ?_⟩
        refine ⟨rfl, ?_⟩
        refine ⟨rfl, ?_⟩
        refine ⟨rfl, ?_⟩
        refine ⟨rfl, ?_⟩
        refine ⟨rfl, ?_⟩
        refine ⟨rfl, ?_⟩
        refine ⟨rfl, ?_⟩
        refine ⟨rfl, ?_⟩
        refine ⟨rfl, ?_⟩
        refine ⟨rfl, ?_⟩
        refine ⟨rfl, ?_⟩
        refine ⟨rfl, ?_⟩
        refine ⟨rfl, ?_⟩
        refine ⟨rfl, ?_⟩
        refine ⟨rfl, ?_⟩
        refine ⟨rfl, ?_⟩
        refine ⟨rfl, ?_⟩
        refine ⟨rfl, ?_⟩
        refine ⟨rfl, ?_⟩
        refine ⟨rfl, ?_⟩
        refine ⟨rfl, ?_⟩
        refine ⟨rfl, ?_⟩
        refine ⟨rfl, ?_⟩
        refine ⟨rfl, ?_⟩
        refine ⟨rfl, ?_⟩
        refine ⟨rfl, ?_⟩
        refine ⟨rfl, ?_⟩
        refine ⟨rfl, ?_⟩
        refine ⟨rfl, ?_⟩
        refine ⟨trivial, ?_⟩
        obtain rfl := Option.some.inj h
        exact ⟨trivial, ⟨trivial, trivial⟩, rfl, rfl⟩
    · rw [if_neg (none_f b11)] at h
      refine ⟨b11, ?_⟩
      refine ⟨b11, ?_⟩
      refine ⟨rfl, ?_⟩
      refine ⟨rfl, ?_⟩
      refine ⟨rfl, ?_⟩
      refine ⟨rfl, ?_⟩
      refine ⟨rfl, ?_⟩
      refine ⟨rfl, ?_⟩
      refine ⟨rfl, ?_⟩
      refine ⟨rfl, ?_⟩
      refine ⟨rfl, ?_⟩
      refine ⟨rfl, ?_⟩
      refine ⟨rfl, ?_⟩
      refine ⟨rfl, ?_⟩
      refine ⟨rfl, ?_⟩
      refine ⟨rfl, ?_⟩
      refine ⟨rfl, ?_⟩
      refine ⟨rfl, ?_⟩
      refine ⟨rfl, ?_⟩
      refine ⟨rfl, ?_⟩
      refine ⟨rfl, ?_⟩
      refine ⟨rfl, ?_⟩
      refine ⟨rfl, ?_⟩
      refine ⟨rfl, ?_⟩
      refine ⟨rfl, ?_⟩
      refine ⟨rfl, ?_⟩
      refine ⟨rfl, ?_⟩
      refine ⟨rfl, ?_⟩
      refine ⟨rfl, ?_⟩
      refine ⟨rfl, ?_⟩
      refine ⟨rfl, ?_⟩
      refine ⟨rfl, ?_⟩
      refine ⟨rfl, ?_⟩
      refine ⟨rfl, ?_⟩
      refine ⟨rfl, ?_⟩
      refine ⟨rfl, ?_⟩
      refine ⟨rfl, ?_⟩
      refine ⟨rfl, ?_⟩
      refine ⟨rfl, ?_⟩
      refine ⟨rfl, ?_⟩
      refine ⟨rfl, ?_⟩
      refine ⟨rfl, ?_⟩
      refine ⟨rfl, ?_⟩
      refine ⟨trivial, ?_⟩
      obtain rfl := Option.some.inj h
      exact ⟨trivial, ⟨trivial, trivial⟩, rfl, rfl⟩
end Go.Proofs.YtlkhfagmpoibaaaDoorGPipeEnds
