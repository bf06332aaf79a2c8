/- Printed by gen.py: what functions of the program compute, in plain Lean, and that they do. -/
import Derived.Test.YtlkhfagmpoibaaaDoorE15
import Derived.Test.YtlkhfagmpoibaaaDoorN
set_option linter.unusedVariables false
set_option maxRecDepth 100000
set_option maxHeartbeats 4000000
namespace Go.Proofs.YtlkhfagmpoibaaaDoorGPipeOrder
open Go Go.Proofs.YtlkhfagmpoibaaaDoorE
def tiL : List (Nat × TI) := [
  (3, ⟨1, 8, false, .int .i64, [.c (.sc (.int .i64 (0 : Int)))], some (.int .i64)⟩),
  (4, ⟨1, 1, false, .bool, [.c (.sc (.bool false))], some .bool⟩),
  (5, ⟨1, 1, false, .int .u8, [.c (.sc (.int .u8 (0 : Int)))], some (.int .u8)⟩),
  (9, ⟨1, 16, false, .str, [.c (.sc (.string ByteArray.empty))], some .str⟩),
  (22, ⟨1, 24, false, (.slice 31), [.c (.sc (.slice none 0 0))], some (.sl (.pair (.sl (.int .u8)) (.int .i64)))⟩),
  (23, ⟨1, 24, false, (.slice 5), [.c (.sc (.slice none 0 0))], some (.sl (.int .u8))⟩),
  (25, ⟨3, 40, true, (.struct [(0, 23), (1, 3), (2, 3)]), [.c (.sc (.slice none 0 0)), .c (.sc (.int .i64 (0 : Int))), .c (.sc (.int .i64 (0 : Int)))], some (.pair (.sl (.int .u8)) (.pair (.int .i64) (.int .i64)))⟩),
  (27, ⟨1, 16, false, .iface, [.c (.err none)], none⟩),
  (31, ⟨2, 32, true, (.struct [(0, 23), (1, 3)]), [.c (.sc (.slice none 0 0)), .c (.sc (.int .i64 (0 : Int)))], some (.pair (.sl (.int .u8)) (.int .i64))⟩),
  (37, ⟨1, 8, false, .int .u64, [.c (.sc (.int .u64 (0 : Int)))], some (.int .u64)⟩),
  (53, ⟨1, 8, false, .int .i64, [.c (.sc (.int .i64 (0 : Int)))], some (.int .i64)⟩),
  (58, ⟨1, 24, false, (.slice 23), [.c (.sc (.slice none 0 0))], some (.sl (.sl (.int .u8)))⟩)]
def tabs : List (Nat × IntKind × List Int) := []
noncomputable def cfg : Cfg := ⟨Tryd.prog, 53, [(⟨0, 0, none⟩, .iface 73 (.agg #[.pointer (some ⟨1, 27, none⟩)]))] ++ tabs.flatMap tabG, tiL, [], tabs⟩
theorem cfg_ok : COk cfg := by
  refine ⟨fun p hp => ?_, by kernel_rfl, fun p hp => ?_, fun t ht => ?_, fun x hx y hy => List.mem_append_right _ (List.mem_flatMap.2 ⟨x, hx, hy⟩)⟩
  · simp only [cfg, tiL, List.mem_cons, List.not_mem_nil, or_false] at hp
    rcases hp with rfl | rfl | rfl | rfl | rfl | rfl | rfl | rfl | rfl | rfl | rfl | rfl <;> exact ⟨by kernel_rfl, by kernel_rfl, by kernel_rfl, by kernel_rfl, by kernel_rfl, by kernel_rfl⟩
  · simp only [cfg, tiL, List.mem_cons, List.not_mem_nil, or_false] at hp
    rcases hp with rfl | rfl | rfl | rfl | rfl | rfl | rfl | rfl | rfl | rfl | rfl | rfl <;> intro fs hfs bl hbl
    · cases hfs
    · cases hfs
    · cases hfs
    · cases hfs
    · cases hfs
    · cases hfs
    · cases hfs
      have e : fieldsZ cfg.L 0 [(0, 23), (1, 3), (2, 3)] = some [[.c (.sc (.slice none 0 0))], [.c (.sc (.int .i64 (0 : Int)))], [.c (.sc (.int .i64 (0 : Int)))]] := by kernel_rfl
      rw [e] at hbl
      cases hbl
      exact (by kernel_rfl : encPs (List.flatten [[.c (.sc (.slice none 0 0))], [.c (.sc (.int .i64 (0 : Int)))], [.c (.sc (.int .i64 (0 : Int)))]]) = encPs [.c (.sc (.slice none 0 0)), .c (.sc (.int .i64 (0 : Int))), .c (.sc (.int .i64 (0 : Int)))])
    · cases hfs
    · cases hfs
      have e : fieldsZ cfg.L 0 [(0, 23), (1, 3)] = some [[.c (.sc (.slice none 0 0))], [.c (.sc (.int .i64 (0 : Int)))]] := by kernel_rfl
      rw [e] at hbl
      cases hbl
      exact (by kernel_rfl : encPs (List.flatten [[.c (.sc (.slice none 0 0))], [.c (.sc (.int .i64 (0 : Int)))]]) = encPs [.c (.sc (.slice none 0 0)), .c (.sc (.int .i64 (0 : Int)))])
    · cases hfs
    · cases hfs
    · cases hfs
  · cases ht
def fin : Scr → List Adj
  | .adj l _ => l
  | _ => []
abbrev TY0 : Type := (List Int) × (List Int) × Int × Int × (Option Int)
abbrev TY1 : Type := (List Int) × Int × Int × (List Int) × (List Int)
abbrev TY2 : Type := Int × (List Int) × Int × Int × (Option Int)
/-! the error's number -/
def num.f (a0 : Option Int) : Option Int := some (a0.getD 0)
def num.R (r : Int) : Tm := .v (.one (.sc (.int .i64 r)))
theorem num.fun_ {a0 : Option Int} {r : Int} (h : num.f a0 = some r) : Fun cfg 8 [.one (.err a0)] [] (num.R r) [] := by
  refine Fun.of_below (f := 8) (fn := Tryd.f8) Tryd.func8 rfl (by kernel_rfl) (r := .int .i64 r) (fun X => ⟨⟨rfl, rfl⟩, rfl⟩) fun X vs hE hvs hG => ?_
  obtain ⟨v, us, rfl, hv, rfl⟩ := hvs
  have hv : v = errV X.E a0 := hv.1
  have he : errV cfg.E a0 = YtlkhfagmpoibaaaDoorN.errW a0 := by cases a0 <;> rfl
  rw [hv, hE, he]
  exact YtlkhfagmpoibaaaDoorN.num.calls a0 r X.w (hG _ (List.mem_append_left _ (List.mem_cons_self ..))) h
/-! halter/pipe.Check -/
def pipe_Check.f (a0 : (List Int)) (a1 : Int) (a2 : Int) : Option (Option Int) :=
  if (((List.length a0) : Nat) : Int) > (64 : Int) then
    some (some (22 : Int))
  else
    if a1 < (0 : Int) then
      some (some (22 : Int))
    else
      if a1 > (1048576 : Int) then
        some (some (22 : Int))
      else
        if a2 < (0 : Int) then
          some (some (22 : Int))
        else
          if a2 > (1048576 : Int) then
            some (some (22 : Int))
          else
            some none
def pipe_Check.R (r : (Option Int)) : Tm := .v (.one (.err r))
theorem pipe_Check.fun_ {a0 : (List Int)} {a1 : Int} {a2 : Int} {r : (Option Int)} (h : pipe_Check.f a0 a1 a2 = some r) : Fun cfg 16 [.agg [.c (.fs (.int .u8) a0 false), .c (.sc (.int .i64 a1)), .c (.sc (.int .i64 a2))]] [] (pipe_Check.R r) [] := by
  unfold pipe_Check.f at h
  refine fun_of_run cfg_ok (f := 16) (fn := Tryd.f16) Tryd.func16 rfl (by kernel_rfl) (rs := [.tmp 2]) rfl (nt := 28) rfl (l := fin) (k := (.br (.one true (.one true (.one true (.one true (.one true (.one true (.one true (.one true (.one true (.one true (.one true (.one true (.one true (.one true (.one true (.one true (.adj [] (.adj [] (.adj [.drop 0] .nil))))))))))))))))))) (.one false (.one false (.one false (.br (.one true (.one true (.one true (.one true (.one true (.one true (.one true (.one true (.one true (.one true (.one true (.one true (.adj [] (.adj [] (.adj [.drop 0] .nil))))))))))))))) (.one false (.one false (.one false (.br (.one true (.one true (.one true (.one true (.one true (.one true (.one true (.one true (.adj [] (.adj [] (.adj [.drop 0] .nil))))))))))) (.one false (.one false (.one false (.br (.one true (.one true (.one true (.one true (.adj [] (.adj [] (.adj [.drop 0] .nil))))))) (.one false (.one false (.one false (.br (.adj [] (.adj [] (.adj [.drop 0] .nil))) (.adj [] (.adj [] (.adj [] (.adj [.drop 0] .nil)))))))))))))))))))))) (to_goal (q := (True) ∧ (True) ∧ (True) ∧ (((decide ((((List.length a0) : Nat) : Int) > (64 : Int))) = false → ((decide ((((List.length a0) : Nat) : Int) > (64 : Int))) = false ∧ (True) ∧ ((decide ((((List.length a0) : Nat) : Int) > (64 : Int))) = false ∧ (True) ∧ ((decide ((((List.length a0) : Nat) : Int) > (64 : Int))) = false ∧ (((decide (a1 < (0 : Int))) = false → ((decide (a1 < (0 : Int))) = false ∧ (True) ∧ ((decide (a1 < (0 : Int))) = false ∧ (True) ∧ ((decide (a1 < (0 : Int))) = false ∧ (((decide (a1 > (1048576 : Int))) = false → ((decide (a1 > (1048576 : Int))) = false ∧ (True) ∧ ((decide (a1 > (1048576 : Int))) = false ∧ (True) ∧ ((decide (a1 > (1048576 : Int))) = false ∧ (((decide (a2 < (0 : Int))) = false → ((decide (a2 < (0 : Int))) = false ∧ (True) ∧ ((decide (a2 < (0 : Int))) = false ∧ (True) ∧ ((decide (a2 < (0 : Int))) = false ∧ (((decide (a2 > (1048576 : Int))) = true → (True ∧ (True ∧ ((True) ∧ ((True) ∧ True) ∧ (.v (.one (.err (some (22 : Int)))) : Tm) = pipe_Check.R r ∧ ([] : List Box) = [])))) ∧ ((decide (a2 > (1048576 : Int))) = false → (True ∧ (True ∧ (True ∧ ((True) ∧ ((True) ∧ True) ∧ (.v (.one (.err none)) : Tm) = pipe_Check.R r ∧ ([] : List Box) = [])))))))))) ∧ ((decide (a2 < (0 : Int))) = true → ((decide (a2 < (0 : Int))) = true ∧ ((decide (a2 < (0 : Int))) = true ∧ ((decide (a2 < (0 : Int))) = true ∧ (true = true ∧ (True ∧ (True ∧ ((True) ∧ ((True) ∧ True) ∧ (.v (.one (.err (some (22 : Int)))) : Tm) = pipe_Check.R r ∧ ([] : List Box) = []))))))))))))) ∧ ((decide (a1 > (1048576 : Int))) = true → ((decide (a1 > (1048576 : Int))) = true ∧ ((decide (a1 > (1048576 : Int))) = true ∧ ((decide (a1 > (1048576 : Int))) = true ∧ (true = true ∧ (true = true ∧ (true = true ∧ (true = true ∧ (true = true ∧ (True ∧ (True ∧ ((True) ∧ ((True) ∧ True) ∧ (.v (.one (.err (some (22 : Int)))) : Tm) = pipe_Check.R r ∧ ([] : List Box) = []))))))))))))))))) ∧ ((decide (a1 < (0 : Int))) = true → ((decide (a1 < (0 : Int))) = true ∧ ((decide (a1 < (0 : Int))) = true ∧ ((decide (a1 < (0 : Int))) = true ∧ (true = true ∧ (true = true ∧ (true = true ∧ (true = true ∧ (true = true ∧ (true = true ∧ (true = true ∧ (true = true ∧ (true = true ∧ (True ∧ (True ∧ ((True) ∧ ((True) ∧ True) ∧ (.v (.one (.err (some (22 : Int)))) : Tm) = pipe_Check.R r ∧ ([] : List Box) = []))))))))))))))))))))) ∧ ((decide ((((List.length a0) : Nat) : Int) > (64 : Int))) = true → ((decide ((((List.length a0) : Nat) : Int) > (64 : Int))) = true ∧ ((decide ((((List.length a0) : Nat) : Int) > (64 : Int))) = true ∧ ((decide ((((List.length a0) : Nat) : Int) > (64 : Int))) = true ∧ (true = true ∧ (true = true ∧ (true = true ∧ (true = true ∧ (true = true ∧ (true = true ∧ (true = true ∧ (true = true ∧ (true = true ∧ (true = true ∧ (true = true ∧ (true = true ∧ (true = true ∧ (True ∧ (True ∧ ((True) ∧ ((True) ∧ True) ∧ (.v (.one (.err (some (22 : Int)))) : Tm) = pipe_Check.R r ∧ ([] : List Box) = [])))))))))))))))))))))) (by kernel_rfl) ?_)
  refine ⟨trivial, ?_⟩
  refine ⟨trivial, ?_⟩
  refine ⟨trivial, ?_⟩
  refine ⟨fun b1 => ?_, fun b1 => ?_⟩
  · rw [if_neg (of_decide_eq_false b1)] at h
    refine ⟨b1, ?_⟩
    refine ⟨trivial, ?_⟩
    refine ⟨b1, ?_⟩
    refine ⟨trivial, ?_⟩
    refine ⟨b1, ?_⟩
    refine ⟨fun b2 => ?_, fun b2 => ?_⟩
    · rw [if_neg (of_decide_eq_false b2)] at h
      refine ⟨b2, ?_⟩
      refine ⟨trivial, ?_⟩
      refine ⟨b2, ?_⟩
      refine ⟨trivial, ?_⟩
      refine ⟨b2, ?_⟩
      refine ⟨fun b3 => ?_, fun b3 => ?_⟩
      · rw [if_neg (of_decide_eq_false b3)] at h
        refine ⟨b3, ?_⟩
        refine ⟨trivial, ?_⟩
        refine ⟨b3, ?_⟩
        refine ⟨trivial, ?_⟩
        refine ⟨b3, ?_⟩
        refine ⟨fun b4 => ?_, fun b4 => ?_⟩
        · rw [if_neg (of_decide_eq_false b4)] at h
          refine ⟨b4, ?_⟩
          refine ⟨trivial, ?_⟩
          refine ⟨b4, ?_⟩
          refine ⟨trivial, ?_⟩
          refine ⟨b4, ?_⟩
          refine ⟨fun b5 => ?_, fun b5 => ?_⟩
          · rw [if_pos (of_decide_eq_true b5)] at h
            refine ⟨trivial, ?_⟩
            refine ⟨trivial, ?_⟩
            obtain rfl := Option.some.inj h
            exact ⟨trivial, ⟨trivial, trivial⟩, rfl, rfl⟩
          · rw [if_neg (of_decide_eq_false b5)] at h
            refine ⟨trivial, ?_⟩
            refine ⟨trivial, ?_⟩
            refine ⟨trivial, ?_⟩
            obtain rfl := Option.some.inj h
            exact ⟨trivial, ⟨trivial, trivial⟩, rfl, rfl⟩
        · rw [if_pos (of_decide_eq_true b4)] at h
          refine ⟨b4, ?_⟩
          refine ⟨b4, ?_⟩
          refine ⟨b4, ?_⟩
          refine ⟨rfl, ?_⟩
          refine ⟨trivial, ?_⟩
          refine ⟨trivial, ?_⟩
          obtain rfl := Option.some.inj h
          exact ⟨trivial, ⟨trivial, trivial⟩, rfl, rfl⟩
      · rw [if_pos (of_decide_eq_true b3)] at h
        refine ⟨b3, ?_⟩
        refine ⟨b3, ?_⟩
        refine ⟨b3, ?_⟩
        refine ⟨rfl, ?_⟩
        refine ⟨rfl, ?_⟩
        refine ⟨rfl, ?_⟩
        refine ⟨rfl, ?_⟩
        refine ⟨rfl, ?_⟩
        refine ⟨trivial, ?_⟩
        refine ⟨trivial, ?_⟩
        obtain rfl := Option.some.inj h
        exact ⟨trivial, ⟨trivial, trivial⟩, rfl, rfl⟩
    · rw [if_pos (of_decide_eq_true b2)] at h
      refine ⟨b2, ?_⟩
      refine ⟨b2, ?_⟩
      refine ⟨b2, ?_⟩
      refine ⟨rfl, ?_⟩
      refine ⟨rfl, ?_⟩
      refine ⟨rfl, ?_⟩
      refine ⟨rfl, ?_⟩
      refine ⟨rfl, ?_⟩
      refine ⟨rfl, ?_⟩
      refine ⟨rfl, ?_⟩
      refine ⟨rfl, ?_⟩
      refine ⟨rfl, ?_⟩
      refine ⟨trivial, ?_⟩
      refine ⟨trivial, ?_⟩
      obtain rfl := Option.some.inj h
      exact ⟨trivial, ⟨trivial, trivial⟩, rfl, rfl⟩
  · rw [if_pos (of_decide_eq_true b1)] at h
    refine ⟨b1, ?_⟩
    refine ⟨b1, ?_⟩
    refine ⟨b1, ?_⟩
    refine ⟨rfl, ?_⟩
    refine ⟨rfl, ?_⟩
    refine ⟨rfl, ?_⟩
    refine ⟨rfl, ?_⟩
    refine ⟨rfl, ?_⟩
    refine ⟨rfl, ?_⟩
    refine ⟨rfl, ?_⟩
    refine ⟨rfl, ?_⟩
    refine ⟨rfl, ?_⟩
    refine ⟨rfl, ?_⟩
    refine ⟨rfl, ?_⟩
    refine ⟨rfl, ?_⟩
    refine ⟨rfl, ?_⟩
    refine ⟨trivial, ?_⟩
    refine ⟨trivial, ?_⟩
    obtain rfl := Option.some.inj h
    exact ⟨trivial, ⟨trivial, trivial⟩, rfl, rfl⟩
/-! slices.Clone[[]byte,byte] -/
def slices_Clone_byte_byte.f (a0 : (List Int)) : Option (List Int) :=
  if (List.length a0) = 0 then same (
    some ([] : List Int)
    ) (
    if True ∧ 0 = 0 ∧ 0 = 0 ∧ ((0 + (List.length a0)) * 1 ≤ 140737488355328 ∧ 0 + (List.length a0) ≤ 9223372036854775807) then
      some (([] : List Int) ++ a0)
    else none
    )
  else
    if True ∧ 0 = 0 ∧ 0 = 0 ∧ ((0 + (List.length a0)) * 1 ≤ 140737488355328 ∧ 0 + (List.length a0) ≤ 9223372036854775807) then
      some (([] : List Int) ++ a0)
    else none
def slices_Clone_byte_byte.R (r : (List Int)) : Tm := .v (.one (.fs (.int .u8) r false))
theorem slices_Clone_byte_byte.fun_ {a0 : (List Int)} {r : (List Int)} (h : slices_Clone_byte_byte.f a0 = some r) : Fun cfg 21 [.one (.fs (.int .u8) a0 false)] [] (slices_Clone_byte_byte.R r) [] := by
  unfold slices_Clone_byte_byte.f at h
  refine fun_of_run cfg_ok (f := 21) (fn := Tryd.f21) Tryd.func21 rfl (by kernel_rfl) (rs := [.tmp 2]) rfl (nt := 8) rfl (l := fin) (k := (.nq (.one true (.adj [] (.adj [] (.adj [.co 0 true [(.int .u8)]] .nil)))) (.one false (.d (.b false) (.adj [] (.adj [.co 0 true [], .drop 0] .nil)))))) (to_goal (q := (((List.length a0) = 0 → (true = true ∧ (True ∧ (True ∧ ((True) ∧ ((True) ∧ True) ∧ (.v (.one (.fs (.int .u8) ([] : List Int) false)) : Tm) = slices_Clone_byte_byte.R r ∧ ([] : List Box) = []))))) ∧ (false = false ∧ (True ∧ 0 = 0 ∧ 0 = 0 ∧ ((0 + (List.length a0)) * 1 ≤ 140737488355328 ∧ 0 + (List.length a0) ≤ 9223372036854775807)) ∧ (True ∧ ((True) ∧ ((((0 = 0 ∧ (List.length (([] : List Int) ++ a0)) = (List.length (([] : List Int) ++ a0)))) ∧ True) ∧ (True) ∧ True) ∧ (.v (.one (.fs (.int .u8) (([] : List Int) ++ a0) false)) : Tm) = slices_Clone_byte_byte.R r ∧ ([] : List Box) = []))))) (by kernel_rfl) ?_)
  refine ⟨fun g1 => ?_, ?_⟩
  · replace h := same_a g1 h
    refine ⟨rfl, ?_⟩
    refine ⟨trivial, ?_⟩
    refine ⟨trivial, ?_⟩
    obtain rfl := Option.some.inj h
    exact ⟨trivial, ⟨trivial, trivial⟩, rfl, rfl⟩
  · replace h := same_b h
    refine ⟨rfl, ?_⟩
    obtain ⟨g2, h⟩ := of_guard h
    refine ⟨g2, ?_⟩
    refine ⟨trivial, ?_⟩
    obtain rfl := Option.some.inj h
    exact ⟨trivial, ⟨⟨⟨rfl, rfl⟩, trivial⟩, trivial, trivial⟩, rfl, rfl⟩
/-! halter/pipe.moved -/
def pipe_moved.f (a0 : (List Int)) (a1 : Int) (a2 : Int) (a3 : Bool) (a4 : Int) : Option ((List Int) × Int × Int × (Option Int)) :=
  (pipe_Check.f a0 a1 a2).bind fun t1 =>
  if ¬ (t1 = none) then
    some (([] : List Int), (0 : Int), (0 : Int), (some (22 : Int)))
  else
    if a3 = true then
      (slices_Clone_byte_byte.f a0).bind fun t4 =>
      if a1 = (0 : Int) then
        (pipe_Check.f ([] : List Int) a1 (IntKind.wrap .i64 (a2 + a4))).bind fun t6 =>
        if ¬ (t6 = none) then
          some (([] : List Int), (0 : Int), (0 : Int), (some (22 : Int)))
        else
          some (([] : List Int), a1, (IntKind.wrap .i64 (a2 + a4)), none)
      else
        (pipe_Check.f t4 a1 (IntKind.wrap .i64 (a2 + a4))).bind fun t8 =>
        if ¬ (t8 = none) then
          some (([] : List Int), (0 : Int), (0 : Int), (some (22 : Int)))
        else
          some (t4, a1, (IntKind.wrap .i64 (a2 + a4)), none)
    else
      (slices_Clone_byte_byte.f a0).bind fun t10 =>
      if (IntKind.wrap .i64 (a1 + a4)) = (0 : Int) then
        (pipe_Check.f ([] : List Int) (IntKind.wrap .i64 (a1 + a4)) a2).bind fun t12 =>
        if ¬ (t12 = none) then
          some (([] : List Int), (0 : Int), (0 : Int), (some (22 : Int)))
        else
          some (([] : List Int), (IntKind.wrap .i64 (a1 + a4)), a2, none)
      else
        (pipe_Check.f t10 (IntKind.wrap .i64 (a1 + a4)) a2).bind fun t14 =>
        if ¬ (t14 = none) then
          some (([] : List Int), (0 : Int), (0 : Int), (some (22 : Int)))
        else
          some (t10, (IntKind.wrap .i64 (a1 + a4)), a2, none)
def pipe_moved.R (r : (List Int) × Int × Int × (Option Int)) : Tm := .tup [.agg [.c (.fs (.int .u8) r.1 false), .c (.sc (.int .i64 r.2.1)), .c (.sc (.int .i64 r.2.2.1))], .one (.err r.2.2.2)]
theorem pipe_moved.fun_ {a0 : (List Int)} {a1 : Int} {a2 : Int} {a3 : Bool} {a4 : Int} {r : (List Int) × Int × Int × (Option Int)} (h : pipe_moved.f a0 a1 a2 a3 a4 = some r) : Fun cfg 18 [.agg [.c (.fs (.int .u8) a0 false), .c (.sc (.int .i64 a1)), .c (.sc (.int .i64 a2))], .one (.sc (.bool a3)), .one (.sc (.int .i64 a4))] [] (pipe_moved.R r) [] := by
  unfold pipe_moved.f at h
  refine fun_of_run cfg_ok (f := 18) (fn := Tryd.f18) Tryd.func18 rfl (by kernel_rfl) (rs := [.cell 6 25, .tmp 7]) rfl (nt := 38) rfl (l := fin) (k := (.call true [] ((Option Int)) (fun t1 => pipe_Check.R t1) (fun t1 => (.br (.adj [] (.adj [] (.adj [.co 0 true [(.int .u8)], .drop 0] .nil))) (.br (.call true [] ((List Int)) (fun t4 => slices_Clone_byte_byte.R t4) (fun t4 => (.br (.call true [(.int .u8)] ((Option Int)) (fun t6 => pipe_Check.R t6) (fun t6 => (.br (.adj [] (.adj [] (.adj [.co 0 true [(.int .u8)], .drop 0] .nil))) (.adj [] (.adj [] (.adj [] (.adj [.co 0 true [(.int .u8)], .drop 0] .nil))))))) (.call true [] ((Option Int)) (fun t8 => pipe_Check.R t8) (fun t8 => (.br (.adj [] (.adj [] (.adj [.co 0 true [(.int .u8)], .drop 0] .nil))) (.adj [] (.adj [] (.adj [] (.adj [.drop 0] .nil)))))))))) (.call true [] ((List Int)) (fun t10 => slices_Clone_byte_byte.R t10) (fun t10 => (.br (.call true [(.int .u8)] ((Option Int)) (fun t12 => pipe_Check.R t12) (fun t12 => (.br (.adj [] (.adj [] (.adj [.co 0 true [(.int .u8)], .drop 0] .nil))) (.adj [] (.adj [] (.adj [] (.adj [.co 0 true [(.int .u8)], .drop 0] .nil))))))) (.call true [] ((Option Int)) (fun t14 => pipe_Check.R t14) (fun t14 => (.br (.adj [] (.adj [] (.adj [.co 0 true [(.int .u8)], .drop 0] .nil))) (.adj [] (.adj [] (.adj [] (.adj [.drop 0] .nil))))))))))))))) (to_goal (q := (True) ∧ (∃ t1 : (Option Int), (Fun cfg 16 [.agg [.c (.fs (.int .u8) a0 false), .c (.sc (.int .i64 a1)), .c (.sc (.int .i64 a2))]] [] (pipe_Check.R t1) [] ∧ True) ∧ (True) ∧ (((!(Option.isNone t1)) = true → (True ∧ (True) ∧ (True ∧ (((True) ∧ True) ∧ ((True) ∧ (True) ∧ True) ∧ (.tup [.agg [.c (.fs (.int .u8) ([] : List Int) false), .c (.sc (.int .i64 (0 : Int))), .c (.sc (.int .i64 (0 : Int)))], .one (.err (some (22 : Int)))] : Tm) = pipe_moved.R r ∧ ([] : List Box) = [])))) ∧ ((!(Option.isNone t1)) = false → ((a3 = true → (True) ∧ (True) ∧ (True) ∧ (True) ∧ (∃ t4 : (List Int), (Fun cfg 21 [.one (.fs (.int .u8) a0 false)] [] (slices_Clone_byte_byte.R t4) [] ∧ True) ∧ (True) ∧ (True) ∧ (True) ∧ (((a1 == (0 : Int)) = true → (True) ∧ (True) ∧ (∃ t6 : (Option Int), (Fun cfg 16 [.agg [.c (.fs (.int .u8) ([] : List Int) false), .c (.sc (.int .i64 a1)), .c (.sc (.int .i64 (IntKind.wrap .i64 (a2 + a4))))]] [] (pipe_Check.R t6) [] ∧ True) ∧ (True) ∧ (((!(Option.isNone t6)) = true → (True ∧ (True) ∧ (True ∧ (((True) ∧ True) ∧ ((True) ∧ (True) ∧ True) ∧ (.tup [.agg [.c (.fs (.int .u8) ([] : List Int) false), .c (.sc (.int .i64 (0 : Int))), .c (.sc (.int .i64 (0 : Int)))], .one (.err (some (22 : Int)))] : Tm) = pipe_moved.R r ∧ ([] : List Box) = [])))) ∧ ((!(Option.isNone t6)) = false → (True ∧ (True ∧ (True) ∧ (True) ∧ (True ∧ (((True) ∧ True) ∧ ((True) ∧ (True) ∧ True) ∧ (.tup [.agg [.c (.fs (.int .u8) ([] : List Int) false), .c (.sc (.int .i64 a1)), .c (.sc (.int .i64 (IntKind.wrap .i64 (a2 + a4))))], .one (.err none)] : Tm) = pipe_moved.R r ∧ ([] : List Box) = [])))))))) ∧ ((a1 == (0 : Int)) = false → (True) ∧ (∃ t8 : (Option Int), (Fun cfg 16 [.agg [.c (.fs (.int .u8) t4 false), .c (.sc (.int .i64 a1)), .c (.sc (.int .i64 (IntKind.wrap .i64 (a2 + a4))))]] [] (pipe_Check.R t8) [] ∧ True) ∧ (True) ∧ (((!(Option.isNone t8)) = true → (True ∧ (True) ∧ (True ∧ (((True) ∧ True) ∧ ((True) ∧ (True) ∧ True) ∧ (.tup [.agg [.c (.fs (.int .u8) ([] : List Int) false), .c (.sc (.int .i64 (0 : Int))), .c (.sc (.int .i64 (0 : Int)))], .one (.err (some (22 : Int)))] : Tm) = pipe_moved.R r ∧ ([] : List Box) = [])))) ∧ ((!(Option.isNone t8)) = false → (True ∧ (True ∧ (True) ∧ (True) ∧ (True ∧ (((True) ∧ True) ∧ ((True) ∧ True) ∧ (.tup [.agg [.c (.fs (.int .u8) t4 false), .c (.sc (.int .i64 a1)), .c (.sc (.int .i64 (IntKind.wrap .i64 (a2 + a4))))], .one (.err none)] : Tm) = pipe_moved.R r ∧ ([] : List Box) = []))))))))))) ∧ (a3 = false → (True) ∧ (True) ∧ (True) ∧ (True) ∧ (∃ t10 : (List Int), (Fun cfg 21 [.one (.fs (.int .u8) a0 false)] [] (slices_Clone_byte_byte.R t10) [] ∧ True) ∧ (True) ∧ (True) ∧ (True) ∧ ((((IntKind.wrap .i64 (a1 + a4)) == (0 : Int)) = true → (True) ∧ (True) ∧ (∃ t12 : (Option Int), (Fun cfg 16 [.agg [.c (.fs (.int .u8) ([] : List Int) false), .c (.sc (.int .i64 (IntKind.wrap .i64 (a1 + a4)))), .c (.sc (.int .i64 a2))]] [] (pipe_Check.R t12) [] ∧ True) ∧ (True) ∧ (((!(Option.isNone t12)) = true → (True ∧ (True) ∧ (True ∧ (((True) ∧ True) ∧ ((True) ∧ (True) ∧ True) ∧ (.tup [.agg [.c (.fs (.int .u8) ([] : List Int) false), .c (.sc (.int .i64 (0 : Int))), .c (.sc (.int .i64 (0 : Int)))], .one (.err (some (22 : Int)))] : Tm) = pipe_moved.R r ∧ ([] : List Box) = [])))) ∧ ((!(Option.isNone t12)) = false → (True ∧ (True ∧ (True) ∧ (True) ∧ (True ∧ (((True) ∧ True) ∧ ((True) ∧ (True) ∧ True) ∧ (.tup [.agg [.c (.fs (.int .u8) ([] : List Int) false), .c (.sc (.int .i64 (IntKind.wrap .i64 (a1 + a4)))), .c (.sc (.int .i64 a2))], .one (.err none)] : Tm) = pipe_moved.R r ∧ ([] : List Box) = [])))))))) ∧ (((IntKind.wrap .i64 (a1 + a4)) == (0 : Int)) = false → (True) ∧ (∃ t14 : (Option Int), (Fun cfg 16 [.agg [.c (.fs (.int .u8) t10 false), .c (.sc (.int .i64 (IntKind.wrap .i64 (a1 + a4)))), .c (.sc (.int .i64 a2))]] [] (pipe_Check.R t14) [] ∧ True) ∧ (True) ∧ (((!(Option.isNone t14)) = true → (True ∧ (True) ∧ (True ∧ (((True) ∧ True) ∧ ((True) ∧ (True) ∧ True) ∧ (.tup [.agg [.c (.fs (.int .u8) ([] : List Int) false), .c (.sc (.int .i64 (0 : Int))), .c (.sc (.int .i64 (0 : Int)))], .one (.err (some (22 : Int)))] : Tm) = pipe_moved.R r ∧ ([] : List Box) = [])))) ∧ ((!(Option.isNone t14)) = false → (True ∧ (True ∧ (True) ∧ (True) ∧ (True ∧ (((True) ∧ True) ∧ ((True) ∧ True) ∧ (.tup [.agg [.c (.fs (.int .u8) t10 false), .c (.sc (.int .i64 (IntKind.wrap .i64 (a1 + a4)))), .c (.sc (.int .i64 a2))], .one (.err none)] : Tm) = pipe_moved.R r ∧ ([] : List Box) = [])))))))))))))))) (by kernel_rfl) ?_)
  refine ⟨trivial, ?_⟩
  obtain ⟨t1, ht1, h⟩ := of_bind h
  refine ⟨t1, ⟨pipe_Check.fun_ ht1, trivial⟩, ?_⟩
  refine ⟨trivial, ?_⟩
  refine ⟨fun b2 => ?_, fun b2 => ?_⟩
  · rw [if_pos (none_f (not_t b2))] at h
    refine ⟨trivial, ?_⟩
    refine ⟨trivial, ?_⟩
    refine ⟨trivial, ?_⟩
    obtain rfl := Option.some.inj h
    exact ⟨⟨trivial, trivial⟩, ⟨trivial, trivial, trivial⟩, rfl, rfl⟩
  · rw [if_neg (not_not_intro (none_t (not_f b2)))] at h
    refine ⟨fun b3 => ?_, fun b3 => ?_⟩
    · rw [if_pos b3] at h
      refine ⟨trivial, ?_⟩
      refine ⟨trivial, ?_⟩
      refine ⟨trivial, ?_⟩
      refine ⟨trivial, ?_⟩
      obtain ⟨t4, ht4, h⟩ := of_bind h
      refine ⟨t4, ⟨slices_Clone_byte_byte.fun_ ht4, trivial⟩, ?_⟩
      refine ⟨trivial, ?_⟩
      refine ⟨trivial, ?_⟩
      refine ⟨trivial, ?_⟩
      refine ⟨fun b5 => ?_, fun b5 => ?_⟩
      · rw [if_pos (beq_t b5)] at h
        refine ⟨trivial, ?_⟩
        refine ⟨trivial, ?_⟩
        obtain ⟨t6, ht6, h⟩ := of_bind h
        refine ⟨t6, ⟨pipe_Check.fun_ ht6, trivial⟩, ?_⟩
        refine ⟨trivial, ?_⟩
        refine ⟨fun b7 => ?_, fun b7 => ?_⟩
        · rw [if_pos (none_f (not_t b7))] at h
          refine ⟨trivial, ?_⟩
          refine ⟨trivial, ?_⟩
          refine ⟨trivial, ?_⟩
          obtain rfl := Option.some.inj h
          exact ⟨⟨trivial, trivial⟩, ⟨trivial, trivial, trivial⟩, rfl, rfl⟩
        · rw [if_neg (not_not_intro (none_t (not_f b7)))] at h
          refine ⟨trivial, ?_⟩
          refine ⟨trivial, ?_⟩
          refine ⟨trivial, ?_⟩
          refine ⟨trivial, ?_⟩
          refine ⟨trivial, ?_⟩
          obtain rfl := Option.some.inj h
          exact ⟨⟨trivial, trivial⟩, ⟨trivial, trivial, trivial⟩, rfl, rfl⟩
      · rw [if_neg (beq_f b5)] at h
        refine ⟨trivial, ?_⟩
        obtain ⟨t8, ht8, h⟩ := of_bind h
        refine ⟨t8, ⟨pipe_Check.fun_ ht8, trivial⟩, ?_⟩
        refine ⟨trivial, ?_⟩
        refine ⟨fun b9 => ?_, fun b9 => ?_⟩
        · rw [if_pos (none_f (not_t b9))] at h
          refine ⟨trivial, ?_⟩
          refine ⟨trivial, ?_⟩
          refine ⟨trivial, ?_⟩
          obtain rfl := Option.some.inj h
          exact ⟨⟨trivial, trivial⟩, ⟨trivial, trivial, trivial⟩, rfl, rfl⟩
        · rw [if_neg (not_not_intro (none_t (not_f b9)))] at h
          refine ⟨trivial, ?_⟩
          refine ⟨trivial, ?_⟩
          refine ⟨trivial, ?_⟩
          refine ⟨trivial, ?_⟩
          refine ⟨trivial, ?_⟩
          obtain rfl := Option.some.inj h
          exact ⟨⟨trivial, trivial⟩, ⟨trivial, trivial⟩, rfl, rfl⟩
    · rw [if_neg (ff b3)] at h
      refine ⟨trivial, ?_⟩
      refine ⟨trivial, ?_⟩
      refine ⟨trivial, ?_⟩
      refine ⟨trivial, ?_⟩
      obtain ⟨t10, ht10, h⟩ := of_bind h
      refine ⟨t10, ⟨slices_Clone_byte_byte.fun_ ht10, trivial⟩, ?_⟩
      refine ⟨trivial, ?_⟩
      refine ⟨trivial, ?_⟩
      refine ⟨trivial, ?_⟩
      refine ⟨fun b11 => ?_, fun b11 => ?_⟩
      · rw [if_pos (beq_t b11)] at h
        refine ⟨trivial, ?_⟩
        refine ⟨trivial, ?_⟩
        obtain ⟨t12, ht12, h⟩ := of_bind h
        refine ⟨t12, ⟨pipe_Check.fun_ ht12, trivial⟩, ?_⟩
        refine ⟨trivial, ?_⟩
        refine ⟨fun b13 => ?_, fun b13 => ?_⟩
        · rw [if_pos (none_f (not_t b13))] at h
          refine ⟨trivial, ?_⟩
          refine ⟨trivial, ?_⟩
          refine ⟨trivial, ?_⟩
          obtain rfl := Option.some.inj h
          exact ⟨⟨trivial, trivial⟩, ⟨trivial, trivial, trivial⟩, rfl, rfl⟩
        · rw [if_neg (not_not_intro (none_t (not_f b13)))] at h
          refine ⟨trivial, ?_⟩
          refine ⟨trivial, ?_⟩
          refine ⟨trivial, ?_⟩
          refine ⟨trivial, ?_⟩
          refine ⟨trivial, ?_⟩
          obtain rfl := Option.some.inj h
          exact ⟨⟨trivial, trivial⟩, ⟨trivial, trivial, trivial⟩, rfl, rfl⟩
      · rw [if_neg (beq_f b11)] at h
        refine ⟨trivial, ?_⟩
        obtain ⟨t14, ht14, h⟩ := of_bind h
        refine ⟨t14, ⟨pipe_Check.fun_ ht14, trivial⟩, ?_⟩
        refine ⟨trivial, ?_⟩
        refine ⟨fun b15 => ?_, fun b15 => ?_⟩
        · rw [if_pos (none_f (not_t b15))] at h
          refine ⟨trivial, ?_⟩
          refine ⟨trivial, ?_⟩
          refine ⟨trivial, ?_⟩
          obtain rfl := Option.some.inj h
          exact ⟨⟨trivial, trivial⟩, ⟨trivial, trivial, trivial⟩, rfl, rfl⟩
        · rw [if_neg (not_not_intro (none_t (not_f b15)))] at h
          refine ⟨trivial, ?_⟩
          refine ⟨trivial, ?_⟩
          refine ⟨trivial, ?_⟩
          refine ⟨trivial, ?_⟩
          refine ⟨trivial, ?_⟩
          obtain rfl := Option.some.inj h
          exact ⟨⟨trivial, trivial⟩, ⟨trivial, trivial⟩, rfl, rfl⟩
/-! halter/pipe.Open -/
def pipe_Open.f (a0 : (List Int)) (a1 : Int) (a2 : Int) (a3 : Bool) : Option ((List Int) × Int × Int × (Option Int)) :=
  (pipe_moved.f a0 a1 a2 a3 (1 : Int)).bind fun t1 =>
  some (t1.1, t1.2.1, t1.2.2.1, t1.2.2.2)
def pipe_Open.R (r : (List Int) × Int × Int × (Option Int)) : Tm := .tup [.agg [.c (.fs (.int .u8) r.1 false), .c (.sc (.int .i64 r.2.1)), .c (.sc (.int .i64 r.2.2.1))], .one (.err r.2.2.2)]
theorem pipe_Open.fun_ {a0 : (List Int)} {a1 : Int} {a2 : Int} {a3 : Bool} {r : (List Int) × Int × Int × (Option Int)} (h : pipe_Open.f a0 a1 a2 a3 = some r) : Fun cfg 6 [.agg [.c (.fs (.int .u8) a0 false), .c (.sc (.int .i64 a1)), .c (.sc (.int .i64 a2))], .one (.sc (.bool a3))] [] (pipe_Open.R r) [] := by
  unfold pipe_Open.f at h
  refine fun_of_run cfg_ok (f := 6) (fn := Tryd.f6) Tryd.func6 rfl (by kernel_rfl) (rs := [.cell 4 25, .tmp 5]) rfl (nt := 11) rfl (l := fin) (k := (.call true [] ((List Int) × Int × Int × (Option Int)) (fun t1 => pipe_moved.R t1) (fun t1 => (.adj [] (.adj [.drop 0] .nil))))) (to_goal (q := (True) ∧ (∃ t1 : (List Int) × Int × Int × (Option Int), (Fun cfg 18 [.agg [.c (.fs (.int .u8) a0 false), .c (.sc (.int .i64 a1)), .c (.sc (.int .i64 a2))], .one (.sc (.bool a3)), .one (.sc (.int .i64 (1 : Int)))] [] (pipe_moved.R t1) [] ∧ True) ∧ (True) ∧ (True ∧ (((True) ∧ True) ∧ ((True) ∧ True) ∧ (.tup [.agg [.c (.fs (.int .u8) t1.1 false), .c (.sc (.int .i64 t1.2.1)), .c (.sc (.int .i64 (p2 t1)))], .one (.err (z3 t1))] : Tm) = pipe_Open.R r ∧ ([] : List Box) = [])))) (by kernel_rfl) ?_)
  refine ⟨trivial, ?_⟩
  obtain ⟨t1, ht1, h⟩ := of_bind h
  refine ⟨t1, ⟨pipe_moved.fun_ ht1, trivial⟩, ?_⟩
  refine ⟨trivial, ?_⟩
  refine ⟨trivial, ?_⟩
  obtain rfl := Option.some.inj h
  exact ⟨⟨trivial, trivial⟩, ⟨trivial, trivial⟩, rfl, rfl⟩
/-! slices.Grow[[]byte,byte] -/
def slices_Grow_byte_byte.f (a0 : Int) : Option (List Int) :=
  if a0 < (0 : Int) then
    none
  else
    if (IntKind.wrap .i64 (a0 - (0 : Int))) > (0 : Int) then
      if 0 ≤ (IntKind.wrap .i64 (a0 - (0 : Int))) ∧ (IntKind.wrap .i64 (a0 - (0 : Int))) * (1 : Int) ≤ 140737488355328 ∧ (IntKind.wrap .i64 (a0 - (0 : Int))) ≤ 9223372036854775807 then
        if ((0 ≤ (0 : Int) ∧ (0 : Int) ≤ (((Int.toNat (IntKind.wrap .i64 (a0 - (0 : Int)))) : Nat) : Int))) ∧ (True) then
          some ([] : List Int)
        else none
      else none
    else
      some ([] : List Int)
def slices_Grow_byte_byte.R (r : (List Int)) : Tm := .v (.one (.os 0 0 0 1 (List.length r) none))
def slices_Grow_byte_byte.B (a0 : Int) (r : (List Int)) : List Box := [.gro false (.int .u8) r 5]
theorem slices_Grow_byte_byte.fun_ {a0 : Int} {r : (List Int)} (h : slices_Grow_byte_byte.f a0 = some r) : Fun cfg 22 [.one (.sc (.slice none 0 0)), .one (.sc (.int .i64 a0))] [] (slices_Grow_byte_byte.R r) (slices_Grow_byte_byte.B a0 r) := by
  unfold slices_Grow_byte_byte.f at h
  refine fun_of_run cfg_ok (f := 22) (fn := Tryd.f22) Tryd.func22 rfl (by kernel_rfl) (rs := [.tmp 4]) rfl (nt := 27) rfl (l := fin) (k := (.br .nil (.br (.d (.b false) (.adj [] (.adj [] (.adj [.cut 0 0] .nil)))) (.adj [] (.adj [] (.adj [] (.adj [.nilGro 0 (.int .u8) 5] .nil))))))) (to_goal (q := (True) ∧ (((decide (a0 < (0 : Int))) = true → False) ∧ ((decide (a0 < (0 : Int))) = false → (True) ∧ (True) ∧ (True) ∧ (True) ∧ (True) ∧ (((decide ((IntKind.wrap .i64 (a0 - (0 : Int))) > (0 : Int))) = true → (True) ∧ (((0 ≤ (0 : Int) ∧ (0 : Int) ≤ ((0 : Nat) : Int))) ∧ (True)) ∧ (0 ≤ (IntKind.wrap .i64 (a0 - (0 : Int))) ∧ (IntKind.wrap .i64 (a0 - (0 : Int))) * (1 : Int) ≤ 140737488355328 ∧ (IntKind.wrap .i64 (a0 - (0 : Int))) ≤ 9223372036854775807) ∧ (True) ∧ (((0 ≤ (0 : Int) ∧ (0 : Int) ≤ (((Int.toNat (IntKind.wrap .i64 (a0 - (0 : Int)))) : Nat) : Int))) ∧ (True)) ∧ (True ∧ (True ∧ ((True) ∧ ((True) ∧ True) ∧ (.v (.one (.os 0 0 0 1 0 none)) : Tm) = slices_Grow_byte_byte.R r ∧ ([.gro false (.int .u8) ([] : List Int) 5] : List Box) = slices_Grow_byte_byte.B a0 r)))) ∧ ((decide ((IntKind.wrap .i64 (a0 - (0 : Int))) > (0 : Int))) = false → (True ∧ (True ∧ (True ∧ ((True) ∧ ((True) ∧ True) ∧ (.v (.one (.os 0 0 0 1 0 none)) : Tm) = slices_Grow_byte_byte.R r ∧ ([.gro false (.int .u8) ([] : List Int) 5] : List Box) = slices_Grow_byte_byte.B a0 r))))))))) (by kernel_rfl) ?_)
  refine ⟨trivial, ?_⟩
  refine ⟨fun b1 => ?_, fun b1 => ?_⟩
  · rw [if_pos (of_decide_eq_true b1)] at h
    cases h
  · rw [if_neg (of_decide_eq_false b1)] at h
    refine ⟨trivial, ?_⟩
    refine ⟨trivial, ?_⟩
    refine ⟨trivial, ?_⟩
    refine ⟨trivial, ?_⟩
    refine ⟨trivial, ?_⟩
    refine ⟨fun b2 => ?_, fun b2 => ?_⟩
    · rw [if_pos (of_decide_eq_true b2)] at h
      refine ⟨trivial, ?_⟩
      refine ⟨⟨(by decide), trivial⟩, ?_⟩
      obtain ⟨g4, h⟩ := of_guard h
      refine ⟨g4, ?_⟩
      refine ⟨trivial, ?_⟩
      obtain ⟨g3, h⟩ := of_guard h
      refine ⟨g3, ?_⟩
      refine ⟨trivial, ?_⟩
      refine ⟨trivial, ?_⟩
      obtain rfl := Option.some.inj h
      exact ⟨trivial, ⟨trivial, trivial⟩, rfl, rfl⟩
    · rw [if_neg (of_decide_eq_false b2)] at h
      refine ⟨trivial, ?_⟩
      refine ⟨trivial, ?_⟩
      refine ⟨trivial, ?_⟩
      obtain rfl := Option.some.inj h
      exact ⟨trivial, ⟨trivial, trivial⟩, rfl, rfl⟩
/-! slices.Concat[[]byte,byte] -/
def slices_Concat_byte_byte.l0 (a0 : (List (List Int))) : Nat → Int → Int → Option Int
  | 0, _, _ => none
  | n + 1, x1, x2 =>
    if x2 < (((List.length a0) : Nat) : Int) then
      if 0 ≤ x2 ∧ x2 < (((List.length a0) : Nat) : Int) then
        if (IntKind.wrap .i64 (x1 + (((List.length (List.getD a0 (Int.toNat x2) ([] : List Int))) : Nat) : Int))) < (0 : Int) then
          none
        else
          slices_Concat_byte_byte.l0 a0 n (IntKind.wrap .i64 (x1 + (((List.length (List.getD a0 (Int.toNat x2) ([] : List Int))) : Nat) : Int))) (IntKind.wrap .i64 (x2 + (1 : Int)))
      else none
    else
      some x1
def slices_Concat_byte_byte.l0_S (a0 : (List (List Int))) (x1 : Int) (x2 : Int) : St := ⟨[.v (.one (.fs (.sl (.int .u8)) a0 false)), .any, .any, .v (.one (.sc (.int .i64 x1))), .any, .any, .any, .any, .any, .v (.one (.fs (.sl (.int .u8)) a0 false)), .v (.one (.sc (.int .i64 (((List.length a0) : Nat) : Int)))), .v (.one (.sc (.int .i64 x2))), .any, .any, .any, .any, .any, .any, .any, .any, .any, .any, .any, .any, .any, .any, .any, .any, .any, .any, .any, .any, .any, .any, .any, .any], [], 0⟩
def slices_Concat_byte_byte.l0_Q (a0 : (List (List Int))) (t : Int) : Exit → St → Prop := fun e s => e = (.exit 0) ∧ s = ⟨[.v (.one (.fs (.sl (.int .u8)) a0 false)), .any, .any, .v (.one (.sc (.int .i64 t))), .any, .any, .any, .any, .any, .any, .any, .any, .any, .any, .any, .any, .any, .any, .any, .any, .any, .any, .any, .any, .any, .any, .any, .any, .any, .any, .any, .any, .any, .any, .any, .any], [], 0⟩
theorem slices_Concat_byte_byte.l0_ok (a0 : (List (List Int))) : ∀ (n : Nat) (x1 : Int) (x2 : Int) (r : Int), slices_Concat_byte_byte.l0 a0 n x1 x2 = some r → TripN cfg (cpath (Tryd.f19.body.getD .skip) [1, 1, 0, 1, 0, 0]) n (slices_Concat_byte_byte.l0_S a0 x1 x2) (slices_Concat_byte_byte.l0_Q a0 r) := by
  intro n
  induction n with
  | zero => intro x1 x2 r h; cases h
  | succ n ih =>
    intro x1 x2 r h
    rw [slices_Concat_byte_byte.l0] at h
    refine TripN.of_run cfg_ok (k := (.br (.br .nil (.adj [] (.adj [] (.adj [.keep [0, 3, 9, 10, 11], .drop 0] .nil)))) (.adj [.keep [0, 3], .drop 0] .nil))) (to_goal (q := (True) ∧ (((decide (x2 < (((List.length a0) : Nat) : Int))) = true → (0 ≤ x2 ∧ x2 < (((List.length a0) : Nat) : Int)) ∧ (True) ∧ (True) ∧ (True) ∧ (True) ∧ (((decide ((IntKind.wrap .i64 (x1 + (((List.length (List.getD a0 (Int.toNat x2) ([] : List Int))) : Nat) : Int))) < (0 : Int))) = true → False) ∧ ((decide ((IntKind.wrap .i64 (x1 + (((List.length (List.getD a0 (Int.toNat x2) ([] : List Int))) : Nat) : Int))) < (0 : Int))) = false → (True ∧ (True ∧ (True) ∧ (((True) ∧ (True) ∧ True) ∧ TripN cfg (cpath (Tryd.f19.body.getD .skip) [1, 1, 0, 1, 0, 0]) n (slices_Concat_byte_byte.l0_S a0 (IntKind.wrap .i64 (x1 + (((List.length (List.getD a0 (Int.toNat x2) ([] : List Int))) : Nat) : Int))) (IntKind.wrap .i64 (x2 + (1 : Int)))) (slices_Concat_byte_byte.l0_Q a0 r))))))) ∧ ((decide (x2 < (((List.length a0) : Nat) : Int))) = false → (((True) ∧ (True) ∧ True) ∧ slices_Concat_byte_byte.l0_Q a0 r (.exit 0) ⟨[.v (.one (.fs (.sl (.int .u8)) a0 false)), .any, .any, .v (.one (.sc (.int .i64 x1))), .any, .any, .any, .any, .any, .any, .any, .any, .any, .any, .any, .any, .any, .any, .any, .any, .any, .any, .any, .any, .any, .any, .any, .any, .any, .any, .any, .any, .any, .any, .any, .any], [], 0⟩)))) (by kernel_rfl) ?_)
    refine ⟨trivial, ?_⟩
    refine ⟨fun b8 => ?_, fun b8 => ?_⟩
    · rw [if_pos (of_decide_eq_true b8)] at h
      obtain ⟨g10, h⟩ := of_guard h
      refine ⟨g10, ?_⟩
      refine ⟨trivial, ?_⟩
      refine ⟨trivial, ?_⟩
      refine ⟨trivial, ?_⟩
      refine ⟨trivial, ?_⟩
      refine ⟨fun b9 => ?_, fun b9 => ?_⟩
      · rw [if_pos (of_decide_eq_true b9)] at h
        cases h
      · rw [if_neg (of_decide_eq_false b9)] at h
        refine ⟨trivial, ?_⟩
        refine ⟨trivial, ?_⟩
        refine ⟨trivial, ?_⟩
        exact ⟨⟨trivial, trivial, trivial⟩, ih (IntKind.wrap .i64 (x1 + (((List.length (List.getD a0 (Int.toNat x2) ([] : List Int))) : Nat) : Int))) (IntKind.wrap .i64 (x2 + (1 : Int))) r h⟩
    · rw [if_neg (of_decide_eq_false b8)] at h
      obtain rfl := Option.some.inj h
      exact ⟨⟨trivial, trivial, trivial⟩, rfl, rfl⟩
def slices_Concat_byte_byte.l1 (a0 : (List (List Int))) : Nat → (List Int) → Int → Option (List Int)
  | 0, _, _ => none
  | n + 1, x18, x19 =>
    if x19 < (((List.length a0) : Nat) : Int) then
      if 0 ≤ x19 ∧ x19 < (((List.length a0) : Nat) : Int) then
        if True ∧ 0 = 0 ∧ (List.length x18) = (List.length x18) ∧ (((List.length x18) + (List.length (List.getD a0 (Int.toNat x19) ([] : List Int)))) * 1 ≤ 140737488355328 ∧ (List.length x18) + (List.length (List.getD a0 (Int.toNat x19) ([] : List Int))) ≤ 9223372036854775807) then
          slices_Concat_byte_byte.l1 a0 n (x18 ++ (List.getD a0 (Int.toNat x19) ([] : List Int))) (IntKind.wrap .i64 (x19 + (1 : Int)))
        else none
      else none
    else
      some x18
def slices_Concat_byte_byte.l1_S (a0 : (List (List Int))) (x18 : List Int) (x19 : Int) : St := ⟨[.any, .any, .any, .any, .any, .any, .v (.one (.os 0 0 0 1 (List.length x18) none)), .any, .any, .any, .any, .any, .any, .any, .any, .any, .any, .any, .any, .any, .any, .any, .any, .any, .any, .v (.one (.fs (.sl (.int .u8)) a0 false)), .v (.one (.sc (.int .i64 (((List.length a0) : Nat) : Int)))), .v (.one (.sc (.int .i64 x19))), .any, .any, .any, .any, .any, .any, .any, .any], [.gro false (.int .u8) x18 5], 0⟩
def slices_Concat_byte_byte.l1_Q (a0 : (List (List Int))) (t : (List Int)) : Exit → St → Prop := fun e s => e = (.exit 2) ∧ s = ⟨[.any, .any, .any, .any, .any, .any, .v (.one (.os 0 0 0 1 (List.length t) none)), .any, .any, .any, .any, .any, .any, .any, .any, .any, .any, .any, .any, .any, .any, .any, .any, .any, .any, .any, .any, .any, .any, .any, .any, .any, .any, .any, .any, .any], [.gro false (.int .u8) t 5], 0⟩
theorem slices_Concat_byte_byte.l1_ok (a0 : (List (List Int))) : ∀ (n : Nat) (x18 : List Int) (x19 : Int) (r : (List Int)), slices_Concat_byte_byte.l1 a0 n x18 x19 = some r → TripN cfg (cpath (Tryd.f19.body.getD .skip) [1, 1, 1, 1, 0, 1, 0, 0]) n (slices_Concat_byte_byte.l1_S a0 x18 x19) (slices_Concat_byte_byte.l1_Q a0 r) := by
  intro n
  induction n with
  | zero => intro x18 x19 r h; cases h
  | succ n ih =>
    intro x18 x19 r h
    rw [slices_Concat_byte_byte.l1] at h
    refine TripN.of_run cfg_ok (k := (.br (.d (.b false) (.adj [] (.adj [.keep [6, 25, 26, 27], .drop 1] .nil))) (.adj [.keep [6], .drop 1] .nil))) (to_goal (q := (True) ∧ (((decide (x19 < (((List.length a0) : Nat) : Int))) = true → (0 ≤ x19 ∧ x19 < (((List.length a0) : Nat) : Int)) ∧ (True) ∧ (True ∧ 0 = 0 ∧ (List.length x18) = (List.length x18) ∧ (((List.length x18) + (List.length (List.getD a0 (Int.toNat x19) ([] : List Int)))) * 1 ≤ 140737488355328 ∧ (List.length x18) + (List.length (List.getD a0 (Int.toNat x19) ([] : List Int))) ≤ 9223372036854775807)) ∧ (True ∧ (True) ∧ (((True) ∧ (True) ∧ True) ∧ TripN cfg (cpath (Tryd.f19.body.getD .skip) [1, 1, 1, 1, 0, 1, 0, 0]) n (slices_Concat_byte_byte.l1_S a0 (x18 ++ (List.getD a0 (Int.toNat x19) ([] : List Int))) (IntKind.wrap .i64 (x19 + (1 : Int)))) (slices_Concat_byte_byte.l1_Q a0 r)))) ∧ ((decide (x19 < (((List.length a0) : Nat) : Int))) = false → (((True) ∧ (True) ∧ True) ∧ slices_Concat_byte_byte.l1_Q a0 r (.exit 2) ⟨[.any, .any, .any, .any, .any, .any, .v (.one (.os 0 0 0 1 (List.length x18) none)), .any, .any, .any, .any, .any, .any, .any, .any, .any, .any, .any, .any, .any, .any, .any, .any, .any, .any, .any, .any, .any, .any, .any, .any, .any, .any, .any, .any, .any], [.gro false (.int .u8) x18 5], 0⟩)))) (by kernel_rfl) ?_)
    refine ⟨trivial, ?_⟩
    refine ⟨fun b25 => ?_, fun b25 => ?_⟩
    · rw [if_pos (of_decide_eq_true b25)] at h
      obtain ⟨g27, h⟩ := of_guard h
      refine ⟨g27, ?_⟩
      refine ⟨trivial, ?_⟩
      obtain ⟨g26, h⟩ := of_guard h
      refine ⟨g26, ?_⟩
      refine ⟨trivial, ?_⟩
      refine ⟨trivial, ?_⟩
      exact ⟨⟨trivial, trivial, trivial⟩, ih (x18 ++ (List.getD a0 (Int.toNat x19) ([] : List Int))) (IntKind.wrap .i64 (x19 + (1 : Int))) r h⟩
    · rw [if_neg (of_decide_eq_false b25)] at h
      obtain rfl := Option.some.inj h
      exact ⟨⟨trivial, trivial, trivial⟩, rfl, rfl⟩
def slices_Concat_byte_byte.f (a0 : (List (List Int))) : Option (List Int) :=
  (slices_Concat_byte_byte.l0 a0 FUEL (0 : Int) (0 : Int)).bind fun t7 =>
  (slices_Grow_byte_byte.f t7).bind fun t13 =>
  (slices_Concat_byte_byte.l1 a0 FUEL t13 (0 : Int)).bind fun t24 =>
  some t24
def slices_Concat_byte_byte.R (r : (List Int)) : Tm := .v (.one (.fs (.int .u8) r false))
theorem slices_Concat_byte_byte.fun_ {a0 : (List (List Int))} {r : (List Int)} (h : slices_Concat_byte_byte.f a0 = some r) : Fun cfg 19 [.one (.fs (.sl (.int .u8)) a0 false)] [] (slices_Concat_byte_byte.R r) [] := by
  unfold slices_Concat_byte_byte.f at h
  refine fun_of_run cfg_ok (f := 19) (fn := Tryd.f19) Tryd.func19 rfl (by kernel_rfl) (rs := [.tmp 2]) rfl (nt := 36) rfl (l := fin) (k := (.adj [] (.adj [] (.adj [] (.adj [] (.adj [.keep [0, 3, 9, 10, 11]] (.sub (Int) (fun _ => (.exit 0)) (fun t7 => ⟨[.v (.one (.fs (.sl (.int .u8)) a0 false)), .any, .any, .v (.one (.sc (.int .i64 t7))), .any, .any, .any, .any, .any, .any, .any, .any, .any, .any, .any, .any, .any, .any, .any, .any, .any, .any, .any, .any, .any, .any, .any, .any, .any, .any, .any, .any, .any, .any, .any, .any], [], 0⟩) (fun t7 => (.callR true [] [] ((List Int)) (fun t13 => (slices_Grow_byte_byte.R t13)) (fun t13 => (slices_Grow_byte_byte.B t7 t13)) (fun t13 => (.adj [] (.adj [] (.adj [.keep [6, 25, 26, 27]] (.sub ((List Int)) (fun _ => (.exit 2)) (fun t24 => ⟨[.any, .any, .any, .any, .any, .any, .v (.one (.os 0 0 0 1 (List.length t24) none)), .any, .any, .any, .any, .any, .any, .any, .any, .any, .any, .any, .any, .any, .any, .any, .any, .any, .any, .any, .any, .any, .any, .any, .any, .any, .any, .any, .any, .any], [.gro false (.int .u8) t24 5], 0⟩) (fun t24 => (.adj [] (.adj [] (.adj [.co 0 true [], .drop 0] .nil)))))))))))))))))) (to_goal (q := (True ∧ (True ∧ (True ∧ (True) ∧ (True ∧ (((True) ∧ True) ∧ (∃ t7 : Int, Trip cfg (.loop (cpath (Tryd.f19.body.getD .skip) [1, 1, 0, 1, 0, 0])) ⟨[.v (.one (.fs (.sl (.int .u8)) a0 false)), .any, .any, .v (.one (.sc (.int .i64 (0 : Int)))), .any, .any, .any, .any, .any, .v (.one (.fs (.sl (.int .u8)) a0 false)), .v (.one (.sc (.int .i64 (((List.length a0) : Nat) : Int)))), .v (.one (.sc (.int .i64 (0 : Int)))), .any, .any, .any, .any, .any, .any, .any, .any, .any, .any, .any, .any, .any, .any, .any, .any, .any, .any, .any, .any, .any, .any, .any, .any], [], 0⟩ (fun e s => e = (.exit 0) ∧ s = ⟨[.v (.one (.fs (.sl (.int .u8)) a0 false)), .any, .any, .v (.one (.sc (.int .i64 t7))), .any, .any, .any, .any, .any, .any, .any, .any, .any, .any, .any, .any, .any, .any, .any, .any, .any, .any, .any, .any, .any, .any, .any, .any, .any, .any, .any, .any, .any, .any, .any, .any], [], 0⟩) ∧ (∃ t13 : (List Int), (Fun cfg 22 [.one (.sc (.slice none 0 0)), .one (.sc (.int .i64 t7))] [] (slices_Grow_byte_byte.R t13) (slices_Grow_byte_byte.B t7 t13) ∧ True) ∧ (True ∧ (True) ∧ (True ∧ (((True) ∧ True) ∧ (∃ t24 : (List Int), Trip cfg (.loop (cpath (Tryd.f19.body.getD .skip) [1, 1, 1, 1, 0, 1, 0, 0])) ⟨[.any, .any, .any, .any, .any, .any, .v (.one (.os 0 0 0 1 (List.length t13) none)), .any, .any, .any, .any, .any, .any, .any, .any, .any, .any, .any, .any, .any, .any, .any, .any, .any, .any, .v (.one (.fs (.sl (.int .u8)) a0 false)), .v (.one (.sc (.int .i64 (((List.length a0) : Nat) : Int)))), .v (.one (.sc (.int .i64 (0 : Int)))), .any, .any, .any, .any, .any, .any, .any, .any], [.gro false (.int .u8) t13 5], 0⟩ (fun e s => e = (.exit 2) ∧ s = ⟨[.any, .any, .any, .any, .any, .any, .v (.one (.os 0 0 0 1 (List.length t24) none)), .any, .any, .any, .any, .any, .any, .any, .any, .any, .any, .any, .any, .any, .any, .any, .any, .any, .any, .any, .any, .any, .any, .any, .any, .any, .any, .any, .any, .any], [.gro false (.int .u8) t24 5], 0⟩) ∧ (True ∧ (True ∧ ((True) ∧ ((((0 = 0 ∧ (List.length t24) = (List.length t24))) ∧ True) ∧ (True) ∧ True) ∧ (.v (.one (.fs (.int .u8) t24 false)) : Tm) = slices_Concat_byte_byte.R r ∧ ([] : List Box) = []))))))))))))))) (by kernel_rfl) ?_)
  refine ⟨trivial, ?_⟩
  refine ⟨trivial, ?_⟩
  refine ⟨trivial, ?_⟩
  refine ⟨trivial, ?_⟩
  refine ⟨trivial, ?_⟩
  obtain ⟨t7, ht7, h⟩ := of_bind h
  refine ⟨⟨trivial, trivial⟩, t7, Trip.loop FUEL (slices_Concat_byte_byte.l0_ok a0 FUEL (0 : Int) (0 : Int) t7 ht7), ?_⟩
  obtain ⟨t13, ht13, h⟩ := of_bind h
  refine ⟨t13, ⟨slices_Grow_byte_byte.fun_ ht13, trivial⟩, ?_⟩
  refine ⟨trivial, ?_⟩
  refine ⟨trivial, ?_⟩
  refine ⟨trivial, ?_⟩
  obtain ⟨t24, ht24, h⟩ := of_bind h
  refine ⟨⟨trivial, trivial⟩, t24, Trip.loop FUEL (slices_Concat_byte_byte.l1_ok a0 FUEL t13 (0 : Int) t24 ht24), ?_⟩
  refine ⟨trivial, ?_⟩
  refine ⟨trivial, ?_⟩
  obtain rfl := Option.some.inj h
  exact ⟨trivial, ⟨⟨⟨rfl, rfl⟩, trivial⟩, trivial, trivial⟩, rfl, rfl⟩
/-! halter/pipe.Write -/
def pipe_Write.f (a0 : (List Int)) (a1 : Int) (a2 : Int) (a3 : (List Int)) : Option (TY2) :=
  (pipe_Check.f a0 a1 a2).bind fun t1 =>
  if ¬ (t1 = none) then
    some ((0 : Int), ([] : List Int), (0 : Int), (0 : Int), (some (22 : Int)))
  else
    if a1 = (0 : Int) then
      some ((0 : Int), ([] : List Int), (0 : Int), (0 : Int), (some (32 : Int)))
    else
      if (((List.length a3) : Nat) : Int) > (0 : Int) then
        if (IntKind.wrap .i64 ((64 : Int) - (((List.length a0) : Nat) : Int))) = (0 : Int) then
          some ((0 : Int), ([] : List Int), (0 : Int), (0 : Int), (some (11 : Int)))
        else
          if 0 ≤ (if (IntKind.wrap .i64 ((64 : Int) - (((List.length a0) : Nat) : Int))) < (((List.length a3) : Nat) : Int) then (IntKind.wrap .i64 ((64 : Int) - (((List.length a0) : Nat) : Int))) else (((List.length a3) : Nat) : Int)) ∧ (if (IntKind.wrap .i64 ((64 : Int) - (((List.length a0) : Nat) : Int))) < (((List.length a3) : Nat) : Int) then (IntKind.wrap .i64 ((64 : Int) - (((List.length a0) : Nat) : Int))) else (((List.length a3) : Nat) : Int)) ≤ (((List.length a3) : Nat) : Int) then
            (slices_Concat_byte_byte.f [a0, (List.take (Int.toNat (if (IntKind.wrap .i64 ((64 : Int) - (((List.length a0) : Nat) : Int))) < (((List.length a3) : Nat) : Int) then (IntKind.wrap .i64 ((64 : Int) - (((List.length a0) : Nat) : Int))) else (((List.length a3) : Nat) : Int))) a3)]).bind fun t7 =>
            some ((if (IntKind.wrap .i64 ((64 : Int) - (((List.length a0) : Nat) : Int))) < (((List.length a3) : Nat) : Int) then (IntKind.wrap .i64 ((64 : Int) - (((List.length a0) : Nat) : Int))) else (((List.length a3) : Nat) : Int)), t7, a1, a2, none)
          else none
      else
        if 0 ≤ (if (IntKind.wrap .i64 ((64 : Int) - (((List.length a0) : Nat) : Int))) < (((List.length a3) : Nat) : Int) then (IntKind.wrap .i64 ((64 : Int) - (((List.length a0) : Nat) : Int))) else (((List.length a3) : Nat) : Int)) ∧ (if (IntKind.wrap .i64 ((64 : Int) - (((List.length a0) : Nat) : Int))) < (((List.length a3) : Nat) : Int) then (IntKind.wrap .i64 ((64 : Int) - (((List.length a0) : Nat) : Int))) else (((List.length a3) : Nat) : Int)) ≤ (((List.length a3) : Nat) : Int) then
          (slices_Concat_byte_byte.f [a0, (List.take (Int.toNat (if (IntKind.wrap .i64 ((64 : Int) - (((List.length a0) : Nat) : Int))) < (((List.length a3) : Nat) : Int) then (IntKind.wrap .i64 ((64 : Int) - (((List.length a0) : Nat) : Int))) else (((List.length a3) : Nat) : Int))) a3)]).bind fun t9 =>
          some ((if (IntKind.wrap .i64 ((64 : Int) - (((List.length a0) : Nat) : Int))) < (((List.length a3) : Nat) : Int) then (IntKind.wrap .i64 ((64 : Int) - (((List.length a0) : Nat) : Int))) else (((List.length a3) : Nat) : Int)), t9, a1, a2, none)
        else none
def pipe_Write.R (r : TY2) : Tm := .tup [.one (.sc (.int .i64 r.1)), .agg [.c (.fs (.int .u8) r.2.1 false), .c (.sc (.int .i64 r.2.2.1)), .c (.sc (.int .i64 r.2.2.2.1))], .one (.err r.2.2.2.2)]
theorem pipe_Write.fun_ {a0 : (List Int)} {a1 : Int} {a2 : Int} {a3 : (List Int)} {r : TY2} (h : pipe_Write.f a0 a1 a2 a3 = some r) : Fun cfg 7 [.agg [.c (.fs (.int .u8) a0 false), .c (.sc (.int .i64 a1)), .c (.sc (.int .i64 a2))], .one (.fs (.int .u8) a3 false)] [] (pipe_Write.R r) [] := by
  unfold pipe_Write.f at h
  refine fun_of_run cfg_ok (f := 7) (fn := Tryd.f7) Tryd.func7 rfl (by kernel_rfl) (rs := [.tmp 4, .cell 5 25, .tmp 6]) rfl (nt := 49) rfl (l := fin) (k := (.call true [] ((Option Int)) (fun t1 => pipe_Check.R t1) (fun t1 => (.br (.adj [] (.adj [] (.adj [.co 1 true [(.int .u8)], .drop 0] .nil))) (.br (.adj [] (.adj [] (.adj [.co 1 true [(.int .u8)], .drop 0] .nil))) (.br (.one true (.one true (.br (.adj [] (.adj [] (.adj [.co 1 true [(.int .u8)], .drop 0] .nil))) (.ex ((List Int)) (fun t7 => (.dr [(0, dN), (2, dN), (3, dN), (1, dN), (4, dN), (5, dN), (6, ⟨none, .callR true [] [] (slices_Concat_byte_byte.R t7) [], false⟩), (7, dN), (8, dN)] (.dr [(0, dN), (2, dN), (1, dN), (3, dN), (4, dN)] (.adj [] (.adj [.drop 0] .nil))))))))) (.one false (.one false (.one false (.ex ((List Int)) (fun t9 => (.dr [(0, dN), (2, dN), (3, dN), (1, dN), (4, dN), (5, dN), (6, ⟨none, .callR true [] [] (slices_Concat_byte_byte.R t9) [], false⟩), (7, dN), (8, dN)] (.dr [(0, dN), (2, dN), (1, dN), (3, dN), (4, dN)] (.adj [] (.adj [.drop 0] .nil))))))))))))))) (to_goal (q := (True) ∧ (True) ∧ (True) ∧ (True) ∧ (∃ t1 : (Option Int), (Fun cfg 16 [.agg [.c (.fs (.int .u8) a0 false), .c (.sc (.int .i64 a1)), .c (.sc (.int .i64 a2))]] [] (pipe_Check.R t1) [] ∧ True) ∧ (True) ∧ (((!(Option.isNone t1)) = true → (True ∧ (True) ∧ (True ∧ (((True) ∧ True) ∧ ((True) ∧ (True) ∧ True) ∧ (.tup [.one (.sc (.int .i64 (0 : Int))), .agg [.c (.fs (.int .u8) ([] : List Int) false), .c (.sc (.int .i64 (0 : Int))), .c (.sc (.int .i64 (0 : Int)))], .one (.err (some (22 : Int)))] : Tm) = pipe_Write.R r ∧ ([] : List Box) = [])))) ∧ ((!(Option.isNone t1)) = false → (True) ∧ (True) ∧ (((a1 == (0 : Int)) = true → (True ∧ (True) ∧ (True ∧ (((True) ∧ True) ∧ ((True) ∧ (True) ∧ True) ∧ (.tup [.one (.sc (.int .i64 (0 : Int))), .agg [.c (.fs (.int .u8) ([] : List Int) false), .c (.sc (.int .i64 (0 : Int))), .c (.sc (.int .i64 (0 : Int)))], .one (.err (some (32 : Int)))] : Tm) = pipe_Write.R r ∧ ([] : List Box) = [])))) ∧ ((a1 == (0 : Int)) = false → (True) ∧ (True) ∧ (((decide ((((List.length a3) : Nat) : Int) > (0 : Int))) = true → ((decide ((((List.length a3) : Nat) : Int) > (0 : Int))) = true ∧ (True) ∧ ((decide ((((List.length a3) : Nat) : Int) > (0 : Int))) = true ∧ ((((IntKind.wrap .i64 ((64 : Int) - (((List.length a0) : Nat) : Int))) == (0 : Int)) = true → (True ∧ (True) ∧ (True ∧ (((True) ∧ True) ∧ ((True) ∧ (True) ∧ True) ∧ (.tup [.one (.sc (.int .i64 (0 : Int))), .agg [.c (.fs (.int .u8) ([] : List Int) false), .c (.sc (.int .i64 (0 : Int))), .c (.sc (.int .i64 (0 : Int)))], .one (.err (some (11 : Int)))] : Tm) = pipe_Write.R r ∧ ([] : List Box) = [])))) ∧ (((IntKind.wrap .i64 ((64 : Int) - (((List.length a0) : Nat) : Int))) == (0 : Int)) = false → (True) ∧ (True) ∧ (∃ t7 : (List Int), (True) ∧ (0 ≤ (if (IntKind.wrap .i64 ((64 : Int) - (((List.length a0) : Nat) : Int))) < (((List.length a3) : Nat) : Int) then (IntKind.wrap .i64 ((64 : Int) - (((List.length a0) : Nat) : Int))) else (((List.length a3) : Nat) : Int)) ∧ (if (IntKind.wrap .i64 ((64 : Int) - (((List.length a0) : Nat) : Int))) < (((List.length a3) : Nat) : Int) then (IntKind.wrap .i64 ((64 : Int) - (((List.length a0) : Nat) : Int))) else (((List.length a3) : Nat) : Int)) ≤ (((List.length a3) : Nat) : Int)) ∧ ((0 = 0 ∧ 2 = 2) ∧ Fun cfg 19 [.one (.fs (.sl (.int .u8)) [a0, (List.take (Int.toNat (if (IntKind.wrap .i64 ((64 : Int) - (((List.length a0) : Nat) : Int))) < (((List.length a3) : Nat) : Int) then (IntKind.wrap .i64 ((64 : Int) - (((List.length a0) : Nat) : Int))) else (((List.length a3) : Nat) : Int))) a3)] false)] [] (slices_Concat_byte_byte.R t7) [] ∧ True) ∧ (True) ∧ (True) ∧ (True) ∧ (True ∧ (((True) ∧ True) ∧ ((True) ∧ True) ∧ (.tup [.one (.sc (.int .i64 (if (IntKind.wrap .i64 ((64 : Int) - (((List.length a0) : Nat) : Int))) < (((List.length a3) : Nat) : Int) then (IntKind.wrap .i64 ((64 : Int) - (((List.length a0) : Nat) : Int))) else (((List.length a3) : Nat) : Int)))), .agg [.c (.fs (.int .u8) t7 false), .c (.sc (.int .i64 a1)), .c (.sc (.int .i64 a2))], .one (.err none)] : Tm) = pipe_Write.R r ∧ ([] : List Box) = [])))))))) ∧ ((decide ((((List.length a3) : Nat) : Int) > (0 : Int))) = false → ((decide ((((List.length a3) : Nat) : Int) > (0 : Int))) = false ∧ ((decide ((((List.length a3) : Nat) : Int) > (0 : Int))) = false ∧ (false = false ∧ (True) ∧ (True) ∧ (∃ t9 : (List Int), (True) ∧ (0 ≤ (if (IntKind.wrap .i64 ((64 : Int) - (((List.length a0) : Nat) : Int))) < (((List.length a3) : Nat) : Int) then (IntKind.wrap .i64 ((64 : Int) - (((List.length a0) : Nat) : Int))) else (((List.length a3) : Nat) : Int)) ∧ (if (IntKind.wrap .i64 ((64 : Int) - (((List.length a0) : Nat) : Int))) < (((List.length a3) : Nat) : Int) then (IntKind.wrap .i64 ((64 : Int) - (((List.length a0) : Nat) : Int))) else (((List.length a3) : Nat) : Int)) ≤ (((List.length a3) : Nat) : Int)) ∧ ((0 = 0 ∧ 2 = 2) ∧ Fun cfg 19 [.one (.fs (.sl (.int .u8)) [a0, (List.take (Int.toNat (if (IntKind.wrap .i64 ((64 : Int) - (((List.length a0) : Nat) : Int))) < (((List.length a3) : Nat) : Int) then (IntKind.wrap .i64 ((64 : Int) - (((List.length a0) : Nat) : Int))) else (((List.length a3) : Nat) : Int))) a3)] false)] [] (slices_Concat_byte_byte.R t9) [] ∧ True) ∧ (True) ∧ (True) ∧ (True) ∧ (True ∧ (((True) ∧ True) ∧ ((True) ∧ True) ∧ (.tup [.one (.sc (.int .i64 (if (IntKind.wrap .i64 ((64 : Int) - (((List.length a0) : Nat) : Int))) < (((List.length a3) : Nat) : Int) then (IntKind.wrap .i64 ((64 : Int) - (((List.length a0) : Nat) : Int))) else (((List.length a3) : Nat) : Int)))), .agg [.c (.fs (.int .u8) t9 false), .c (.sc (.int .i64 a1)), .c (.sc (.int .i64 a2))], .one (.err none)] : Tm) = pipe_Write.R r ∧ ([] : List Box) = [])))))))))))))) (by kernel_rfl) ?_)
  refine ⟨trivial, ?_⟩
  refine ⟨trivial, ?_⟩
  refine ⟨trivial, ?_⟩
  refine ⟨trivial, ?_⟩
  obtain ⟨t1, ht1, h⟩ := of_bind h
  refine ⟨t1, ⟨pipe_Check.fun_ ht1, trivial⟩, ?_⟩
  refine ⟨trivial, ?_⟩
  refine ⟨fun b2 => ?_, fun b2 => ?_⟩
  · rw [if_pos (none_f (not_t b2))] at h
    refine ⟨trivial, ?_⟩
    refine ⟨trivial, ?_⟩
    refine ⟨trivial, ?_⟩
    obtain rfl := Option.some.inj h
    exact ⟨⟨trivial, trivial⟩, ⟨trivial, trivial, trivial⟩, rfl, rfl⟩
  · rw [if_neg (not_not_intro (none_t (not_f b2)))] at h
    refine ⟨trivial, ?_⟩
    refine ⟨trivial, ?_⟩
    refine ⟨fun b3 => ?_, fun b3 => ?_⟩
    · rw [if_pos (beq_t b3)] at h
      refine ⟨trivial, ?_⟩
      refine ⟨trivial, ?_⟩
      refine ⟨trivial, ?_⟩
      obtain rfl := Option.some.inj h
      exact ⟨⟨trivial, trivial⟩, ⟨trivial, trivial, trivial⟩, rfl, rfl⟩
    · rw [if_neg (beq_f b3)] at h
      refine ⟨trivial, ?_⟩
      refine ⟨trivial, ?_⟩
      refine ⟨fun b4 => ?_, fun b4 => ?_⟩
      · rw [if_pos (of_decide_eq_true b4)] at h
        refine ⟨b4, ?_⟩
        refine ⟨trivial, ?_⟩
        refine ⟨b4, ?_⟩
        refine ⟨fun b5 => ?_, fun b5 => ?_⟩
        · rw [if_pos (beq_t b5)] at h
          refine ⟨trivial, ?_⟩
          refine ⟨trivial, ?_⟩
          refine ⟨trivial, ?_⟩
          obtain rfl := Option.some.inj h
          exact ⟨⟨trivial, trivial⟩, ⟨trivial, trivial, trivial⟩, rfl, rfl⟩
        · rw [if_neg (beq_f b5)] at h
          refine ⟨trivial, ?_⟩
          refine ⟨trivial, ?_⟩
          obtain ⟨g6, h⟩ := of_guard h
          obtain ⟨t7, ht7, h⟩ := of_bind h
          refine ⟨t7, ?_⟩
          refine ⟨trivial, g6, ⟨⟨rfl, rfl⟩, slices_Concat_byte_byte.fun_ ht7, trivial⟩, trivial, ?_⟩
          refine ⟨trivial, trivial, ?_⟩
          refine ⟨trivial, ?_⟩
          obtain rfl := Option.some.inj h
          exact ⟨⟨trivial, trivial⟩, ⟨trivial, trivial⟩, rfl, rfl⟩
      · rw [if_neg (of_decide_eq_false b4)] at h
        refine ⟨b4, ?_⟩
        refine ⟨b4, ?_⟩
        refine ⟨rfl, ?_⟩
        refine ⟨trivial, ?_⟩
        refine ⟨trivial, ?_⟩
        obtain ⟨g8, h⟩ := of_guard h
        obtain ⟨t9, ht9, h⟩ := of_bind h
        refine ⟨t9, ?_⟩
        refine ⟨trivial, g8, ⟨⟨rfl, rfl⟩, slices_Concat_byte_byte.fun_ ht9, trivial⟩, trivial, ?_⟩
        refine ⟨trivial, trivial, ?_⟩
        refine ⟨trivial, ?_⟩
        obtain rfl := Option.some.inj h
        exact ⟨⟨trivial, trivial⟩, ⟨trivial, trivial⟩, rfl, rfl⟩
/-! halter/pipe.Read -/
def pipe_Read.f (a0 : (List Int)) (a1 : Int) (a2 : Int) (a3 : Int) : Option (TY0) :=
  (pipe_Check.f a0 a1 a2).bind fun t1 =>
  if ¬ (t1 = none) then
    some (([] : List Int), ([] : List Int), (0 : Int), (0 : Int), (some (22 : Int)))
  else
    if a3 < (0 : Int) then
      some (([] : List Int), ([] : List Int), (0 : Int), (0 : Int), (some (22 : Int)))
    else
      if a3 > (0 : Int) then
        if (((List.length a0) : Nat) : Int) = (0 : Int) then
          if a2 > (0 : Int) then
            some (([] : List Int), ([] : List Int), (0 : Int), (0 : Int), (some (11 : Int)))
          else
            if 0 ≤ (if (((List.length a0) : Nat) : Int) < a3 then (((List.length a0) : Nat) : Int) else a3) ∧ (if (((List.length a0) : Nat) : Int) < a3 then (((List.length a0) : Nat) : Int) else a3) ≤ (((List.length a0) : Nat) : Int) then
              (slices_Clone_byte_byte.f (List.take (Int.toNat (if (((List.length a0) : Nat) : Int) < a3 then (((List.length a0) : Nat) : Int) else a3)) a0)).bind fun t7 =>
              if (True) ∧ ((0 ≤ (if (((List.length a0) : Nat) : Int) < a3 then (((List.length a0) : Nat) : Int) else a3) ∧ (if (((List.length a0) : Nat) : Int) < a3 then (((List.length a0) : Nat) : Int) else a3) ≤ (((List.length a0) : Nat) : Int))) then
                (slices_Clone_byte_byte.f (List.drop (Int.toNat (if (((List.length a0) : Nat) : Int) < a3 then (((List.length a0) : Nat) : Int) else a3)) a0)).bind fun t8 =>
                some (t7, t8, a1, a2, none)
              else none
            else none
        else
          if 0 ≤ (if (((List.length a0) : Nat) : Int) < a3 then (((List.length a0) : Nat) : Int) else a3) ∧ (if (((List.length a0) : Nat) : Int) < a3 then (((List.length a0) : Nat) : Int) else a3) ≤ (((List.length a0) : Nat) : Int) then
            (slices_Clone_byte_byte.f (List.take (Int.toNat (if (((List.length a0) : Nat) : Int) < a3 then (((List.length a0) : Nat) : Int) else a3)) a0)).bind fun t11 =>
            if (True) ∧ ((0 ≤ (if (((List.length a0) : Nat) : Int) < a3 then (((List.length a0) : Nat) : Int) else a3) ∧ (if (((List.length a0) : Nat) : Int) < a3 then (((List.length a0) : Nat) : Int) else a3) ≤ (((List.length a0) : Nat) : Int))) then
              (slices_Clone_byte_byte.f (List.drop (Int.toNat (if (((List.length a0) : Nat) : Int) < a3 then (((List.length a0) : Nat) : Int) else a3)) a0)).bind fun t12 =>
              some (t11, t12, a1, a2, none)
            else none
          else none
      else
        if 0 ≤ (if (((List.length a0) : Nat) : Int) < a3 then (((List.length a0) : Nat) : Int) else a3) ∧ (if (((List.length a0) : Nat) : Int) < a3 then (((List.length a0) : Nat) : Int) else a3) ≤ (((List.length a0) : Nat) : Int) then
          (slices_Clone_byte_byte.f (List.take (Int.toNat (if (((List.length a0) : Nat) : Int) < a3 then (((List.length a0) : Nat) : Int) else a3)) a0)).bind fun t15 =>
          if (True) ∧ ((0 ≤ (if (((List.length a0) : Nat) : Int) < a3 then (((List.length a0) : Nat) : Int) else a3) ∧ (if (((List.length a0) : Nat) : Int) < a3 then (((List.length a0) : Nat) : Int) else a3) ≤ (((List.length a0) : Nat) : Int))) then
            (slices_Clone_byte_byte.f (List.drop (Int.toNat (if (((List.length a0) : Nat) : Int) < a3 then (((List.length a0) : Nat) : Int) else a3)) a0)).bind fun t16 =>
            some (t15, t16, a1, a2, none)
          else none
        else none
def pipe_Read.R (r : TY0) : Tm := .tup [.one (.fs (.int .u8) r.1 false), .agg [.c (.fs (.int .u8) r.2.1 false), .c (.sc (.int .i64 r.2.2.1)), .c (.sc (.int .i64 r.2.2.2.1))], .one (.err r.2.2.2.2)]
theorem pipe_Read.fun_ {a0 : (List Int)} {a1 : Int} {a2 : Int} {a3 : Int} {r : TY0} (h : pipe_Read.f a0 a1 a2 a3 = some r) : Fun cfg 9 [.agg [.c (.fs (.int .u8) a0 false), .c (.sc (.int .i64 a1)), .c (.sc (.int .i64 a2))], .one (.sc (.int .i64 a3))] [] (pipe_Read.R r) [] := by
  unfold pipe_Read.f at h
  refine fun_of_run cfg_ok (f := 9) (fn := Tryd.f9) Tryd.func9 rfl (by kernel_rfl) (rs := [.tmp 4, .cell 5 25, .tmp 6]) rfl (nt := 53) rfl (l := fin) (k := (.call true [] ((Option Int)) (fun t1 => pipe_Check.R t1) (fun t1 => (.br (.one true (.one true (.one true (.adj [] (.adj [] (.adj [.co 0 true [(.int .u8)], .co 1 true [(.int .u8)], .drop 0] .nil)))))) (.one false (.one false (.br (.adj [] (.adj [] (.adj [.co 0 true [(.int .u8)], .co 1 true [(.int .u8)], .drop 0] .nil))) (.br (.one true (.one true (.one true (.one true (.br (.one true (.one true (.one true (.br (.adj [] (.adj [] (.adj [.co 0 true [(.int .u8)], .co 1 true [(.int .u8)], .drop 0] .nil))) (.call true [] ((List Int)) (fun t7 => slices_Clone_byte_byte.R t7) (fun t7 => (.call true [] ((List Int)) (fun t8 => slices_Clone_byte_byte.R t8) (fun t8 => (.dr [(0, dN), (2, dN), (1, dN), (3, dN), (4, dN)] (.adj [] (.adj [.drop 0] .nil))))))))))) (.one false (.one false (.one false (.one false (.call true [] ((List Int)) (fun t11 => slices_Clone_byte_byte.R t11) (fun t11 => (.call true [] ((List Int)) (fun t12 => slices_Clone_byte_byte.R t12) (fun t12 => (.dr [(0, dN), (2, dN), (1, dN), (3, dN), (4, dN)] (.adj [] (.adj [.drop 0] .nil)))))))))))))))) (.one false (.one false (.one false (.one false (.one false (.one false (.one false (.one false (.one false (.call true [] ((List Int)) (fun t15 => slices_Clone_byte_byte.R t15) (fun t15 => (.call true [] ((List Int)) (fun t16 => slices_Clone_byte_byte.R t16) (fun t16 => (.dr [(0, dN), (2, dN), (1, dN), (3, dN), (4, dN)] (.adj [] (.adj [.drop 0] .nil)))))))))))))))))))))))) (to_goal (q := (True) ∧ (∃ t1 : (Option Int), (Fun cfg 16 [.agg [.c (.fs (.int .u8) a0 false), .c (.sc (.int .i64 a1)), .c (.sc (.int .i64 a2))]] [] (pipe_Check.R t1) [] ∧ True) ∧ (True) ∧ (((!(Option.isNone t1)) = false → ((!(Option.isNone t1)) = false ∧ (True) ∧ ((!(Option.isNone t1)) = false ∧ (((decide (a3 < (0 : Int))) = true → (True ∧ (True) ∧ (True ∧ (((True) ∧ True) ∧ ((True) ∧ (True) ∧ (True) ∧ True) ∧ (.tup [.one (.fs (.int .u8) ([] : List Int) false), .agg [.c (.fs (.int .u8) ([] : List Int) false), .c (.sc (.int .i64 (0 : Int))), .c (.sc (.int .i64 (0 : Int)))], .one (.err (some (22 : Int)))] : Tm) = pipe_Read.R r ∧ ([] : List Box) = [])))) ∧ ((decide (a3 < (0 : Int))) = false → (True) ∧ (((decide (a3 > (0 : Int))) = true → ((decide (a3 > (0 : Int))) = true ∧ (True) ∧ ((decide (a3 > (0 : Int))) = true ∧ (True) ∧ ((decide (a3 > (0 : Int))) = true ∧ (True) ∧ ((decide (a3 > (0 : Int))) = true ∧ ((((((List.length a0) : Nat) : Int) == (0 : Int)) = true → (((((List.length a0) : Nat) : Int) == (0 : Int)) = true ∧ (True) ∧ (((((List.length a0) : Nat) : Int) == (0 : Int)) = true ∧ (True) ∧ (((((List.length a0) : Nat) : Int) == (0 : Int)) = true ∧ (((decide (a2 > (0 : Int))) = true → (True ∧ (True) ∧ (True ∧ (((True) ∧ True) ∧ ((True) ∧ (True) ∧ (True) ∧ True) ∧ (.tup [.one (.fs (.int .u8) ([] : List Int) false), .agg [.c (.fs (.int .u8) ([] : List Int) false), .c (.sc (.int .i64 (0 : Int))), .c (.sc (.int .i64 (0 : Int)))], .one (.err (some (11 : Int)))] : Tm) = pipe_Read.R r ∧ ([] : List Box) = [])))) ∧ ((decide (a2 > (0 : Int))) = false → (True) ∧ (True) ∧ (True) ∧ (True) ∧ (0 ≤ (if (((List.length a0) : Nat) : Int) < a3 then (((List.length a0) : Nat) : Int) else a3) ∧ (if (((List.length a0) : Nat) : Int) < a3 then (((List.length a0) : Nat) : Int) else a3) ≤ (((List.length a0) : Nat) : Int)) ∧ (∃ t7 : (List Int), (Fun cfg 21 [.one (.fs (.int .u8) (List.take (Int.toNat (if (((List.length a0) : Nat) : Int) < a3 then (((List.length a0) : Nat) : Int) else a3)) a0) false)] [] (slices_Clone_byte_byte.R t7) [] ∧ True) ∧ (True) ∧ ((True) ∧ ((0 ≤ (if (((List.length a0) : Nat) : Int) < a3 then (((List.length a0) : Nat) : Int) else a3) ∧ (if (((List.length a0) : Nat) : Int) < a3 then (((List.length a0) : Nat) : Int) else a3) ≤ (((List.length a0) : Nat) : Int)))) ∧ (∃ t8 : (List Int), (Fun cfg 21 [.one (.fs (.int .u8) (List.drop (Int.toNat (if (((List.length a0) : Nat) : Int) < a3 then (((List.length a0) : Nat) : Int) else a3)) a0) false)] [] (slices_Clone_byte_byte.R t8) [] ∧ True) ∧ (True) ∧ (True) ∧ (True) ∧ (True ∧ (((True) ∧ True) ∧ ((True) ∧ True) ∧ (.tup [.one (.fs (.int .u8) t7 false), .agg [.c (.fs (.int .u8) t8 false), .c (.sc (.int .i64 a1)), .c (.sc (.int .i64 a2))], .one (.err none)] : Tm) = pipe_Read.R r ∧ ([] : List Box) = [])))))))))) ∧ (((((List.length a0) : Nat) : Int) == (0 : Int)) = false → (((((List.length a0) : Nat) : Int) == (0 : Int)) = false ∧ (((((List.length a0) : Nat) : Int) == (0 : Int)) = false ∧ (((((List.length a0) : Nat) : Int) == (0 : Int)) = false ∧ (false = false ∧ (True) ∧ (True) ∧ (True) ∧ (True) ∧ (0 ≤ (if (((List.length a0) : Nat) : Int) < a3 then (((List.length a0) : Nat) : Int) else a3) ∧ (if (((List.length a0) : Nat) : Int) < a3 then (((List.length a0) : Nat) : Int) else a3) ≤ (((List.length a0) : Nat) : Int)) ∧ (∃ t11 : (List Int), (Fun cfg 21 [.one (.fs (.int .u8) (List.take (Int.toNat (if (((List.length a0) : Nat) : Int) < a3 then (((List.length a0) : Nat) : Int) else a3)) a0) false)] [] (slices_Clone_byte_byte.R t11) [] ∧ True) ∧ (True) ∧ ((True) ∧ ((0 ≤ (if (((List.length a0) : Nat) : Int) < a3 then (((List.length a0) : Nat) : Int) else a3) ∧ (if (((List.length a0) : Nat) : Int) < a3 then (((List.length a0) : Nat) : Int) else a3) ≤ (((List.length a0) : Nat) : Int)))) ∧ (∃ t12 : (List Int), (Fun cfg 21 [.one (.fs (.int .u8) (List.drop (Int.toNat (if (((List.length a0) : Nat) : Int) < a3 then (((List.length a0) : Nat) : Int) else a3)) a0) false)] [] (slices_Clone_byte_byte.R t12) [] ∧ True) ∧ (True) ∧ (True) ∧ (True) ∧ (True ∧ (((True) ∧ True) ∧ ((True) ∧ True) ∧ (.tup [.one (.fs (.int .u8) t11 false), .agg [.c (.fs (.int .u8) t12 false), .c (.sc (.int .i64 a1)), .c (.sc (.int .i64 a2))], .one (.err none)] : Tm) = pipe_Read.R r ∧ ([] : List Box) = []))))))))))))))) ∧ ((decide (a3 > (0 : Int))) = false → ((decide (a3 > (0 : Int))) = false ∧ ((decide (a3 > (0 : Int))) = false ∧ ((decide (a3 > (0 : Int))) = false ∧ ((decide (a3 > (0 : Int))) = false ∧ (false = false ∧ (false = false ∧ (false = false ∧ (false = false ∧ (false = false ∧ (True) ∧ (True) ∧ (True) ∧ (True) ∧ (0 ≤ (if (((List.length a0) : Nat) : Int) < a3 then (((List.length a0) : Nat) : Int) else a3) ∧ (if (((List.length a0) : Nat) : Int) < a3 then (((List.length a0) : Nat) : Int) else a3) ≤ (((List.length a0) : Nat) : Int)) ∧ (∃ t15 : (List Int), (Fun cfg 21 [.one (.fs (.int .u8) (List.take (Int.toNat (if (((List.length a0) : Nat) : Int) < a3 then (((List.length a0) : Nat) : Int) else a3)) a0) false)] [] (slices_Clone_byte_byte.R t15) [] ∧ True) ∧ (True) ∧ ((True) ∧ ((0 ≤ (if (((List.length a0) : Nat) : Int) < a3 then (((List.length a0) : Nat) : Int) else a3) ∧ (if (((List.length a0) : Nat) : Int) < a3 then (((List.length a0) : Nat) : Int) else a3) ≤ (((List.length a0) : Nat) : Int)))) ∧ (∃ t16 : (List Int), (Fun cfg 21 [.one (.fs (.int .u8) (List.drop (Int.toNat (if (((List.length a0) : Nat) : Int) < a3 then (((List.length a0) : Nat) : Int) else a3)) a0) false)] [] (slices_Clone_byte_byte.R t16) [] ∧ True) ∧ (True) ∧ (True) ∧ (True) ∧ (True ∧ (((True) ∧ True) ∧ ((True) ∧ True) ∧ (.tup [.one (.fs (.int .u8) t15 false), .agg [.c (.fs (.int .u8) t16 false), .c (.sc (.int .i64 a1)), .c (.sc (.int .i64 a2))], .one (.err none)] : Tm) = pipe_Read.R r ∧ ([] : List Box) = [])))))))))))))))))))) ∧ ((!(Option.isNone t1)) = true → ((!(Option.isNone t1)) = true ∧ ((!(Option.isNone t1)) = true ∧ (true = true ∧ (True ∧ (True) ∧ (True ∧ (((True) ∧ True) ∧ ((True) ∧ (True) ∧ (True) ∧ True) ∧ (.tup [.one (.fs (.int .u8) ([] : List Int) false), .agg [.c (.fs (.int .u8) ([] : List Int) false), .c (.sc (.int .i64 (0 : Int))), .c (.sc (.int .i64 (0 : Int)))], .one (.err (some (22 : Int)))] : Tm) = pipe_Read.R r ∧ ([] : List Box) = [])))))))))) (by kernel_rfl) ?_)
  refine ⟨trivial, ?_⟩
  obtain ⟨t1, ht1, h⟩ := of_bind h
  refine ⟨t1, ⟨pipe_Check.fun_ ht1, trivial⟩, ?_⟩
  refine ⟨trivial, ?_⟩
  refine ⟨fun b2 => ?_, fun b2 => ?_⟩
  · rw [if_neg (not_not_intro (none_t (not_f b2)))] at h
    refine ⟨b2, ?_⟩
    refine ⟨trivial, ?_⟩
    refine ⟨b2, ?_⟩
    refine ⟨fun b3 => ?_, fun b3 => ?_⟩
    · rw [if_pos (of_decide_eq_true b3)] at h
      refine ⟨trivial, ?_⟩
      refine ⟨trivial, ?_⟩
      refine ⟨trivial, ?_⟩
      obtain rfl := Option.some.inj h
      exact ⟨⟨trivial, trivial⟩, ⟨trivial, trivial, trivial, trivial⟩, rfl, rfl⟩
    · rw [if_neg (of_decide_eq_false b3)] at h
      refine ⟨trivial, ?_⟩
      refine ⟨fun b4 => ?_, fun b4 => ?_⟩
      · rw [if_pos (of_decide_eq_true b4)] at h
        refine ⟨b4, ?_⟩
        refine ⟨trivial, ?_⟩
        refine ⟨b4, ?_⟩
        refine ⟨trivial, ?_⟩
        refine ⟨b4, ?_⟩
        refine ⟨trivial, ?_⟩
        refine ⟨b4, ?_⟩
        refine ⟨fun b5 => ?_, fun b5 => ?_⟩
        · rw [if_pos (beq_t b5)] at h
          refine ⟨b5, ?_⟩
          refine ⟨trivial, ?_⟩
          refine ⟨b5, ?_⟩
          refine ⟨trivial, ?_⟩
          refine ⟨b5, ?_⟩
          refine ⟨fun b6 => ?_, fun b6 => ?_⟩
          · rw [if_pos (of_decide_eq_true b6)] at h
            refine ⟨trivial, ?_⟩
            refine ⟨trivial, ?_⟩
            refine ⟨trivial, ?_⟩
            obtain rfl := Option.some.inj h
            exact ⟨⟨trivial, trivial⟩, ⟨trivial, trivial, trivial, trivial⟩, rfl, rfl⟩
          · rw [if_neg (of_decide_eq_false b6)] at h
            refine ⟨trivial, ?_⟩
            refine ⟨trivial, ?_⟩
            refine ⟨trivial, ?_⟩
            refine ⟨trivial, ?_⟩
            obtain ⟨g10, h⟩ := of_guard h
            refine ⟨g10, ?_⟩
            obtain ⟨t7, ht7, h⟩ := of_bind h
            refine ⟨t7, ⟨slices_Clone_byte_byte.fun_ ht7, trivial⟩, ?_⟩
            refine ⟨trivial, ?_⟩
            obtain ⟨g9, h⟩ := of_guard h
            refine ⟨g9, ?_⟩
            obtain ⟨t8, ht8, h⟩ := of_bind h
            refine ⟨t8, ⟨slices_Clone_byte_byte.fun_ ht8, trivial⟩, ?_⟩
            refine ⟨trivial, ?_⟩
            refine ⟨trivial, trivial, ?_⟩
            refine ⟨trivial, ?_⟩
            obtain rfl := Option.some.inj h
            exact ⟨⟨trivial, trivial⟩, ⟨trivial, trivial⟩, rfl, rfl⟩
        · rw [if_neg (beq_f b5)] at h
          refine ⟨b5, ?_⟩
          refine ⟨b5, ?_⟩
          refine ⟨b5, ?_⟩
          refine ⟨rfl, ?_⟩
          refine ⟨trivial, ?_⟩
          refine ⟨trivial, ?_⟩
          refine ⟨trivial, ?_⟩
          refine ⟨trivial, ?_⟩
          obtain ⟨g14, h⟩ := of_guard h
          refine ⟨g14, ?_⟩
          obtain ⟨t11, ht11, h⟩ := of_bind h
          refine ⟨t11, ⟨slices_Clone_byte_byte.fun_ ht11, trivial⟩, ?_⟩
          refine ⟨trivial, ?_⟩
          obtain ⟨g13, h⟩ := of_guard h
          refine ⟨g13, ?_⟩
          obtain ⟨t12, ht12, h⟩ := of_bind h
          refine ⟨t12, ⟨slices_Clone_byte_byte.fun_ ht12, trivial⟩, ?_⟩
          refine ⟨trivial, ?_⟩
          refine ⟨trivial, trivial, ?_⟩
          refine ⟨trivial, ?_⟩
          obtain rfl := Option.some.inj h
          exact ⟨⟨trivial, trivial⟩, ⟨trivial, trivial⟩, rfl, rfl⟩
      · rw [if_neg (of_decide_eq_false b4)] at h
        refine ⟨b4, ?_⟩
        refine ⟨b4, ?_⟩
        refine ⟨b4, ?_⟩
        refine ⟨b4, ?_⟩
        refine ⟨rfl, ?_⟩
        refine ⟨rfl, ?_⟩
        refine ⟨rfl, ?_⟩
        refine ⟨rfl, ?_⟩
        refine ⟨rfl, ?_⟩
        refine ⟨trivial, ?_⟩
        refine ⟨trivial, ?_⟩
        refine ⟨trivial, ?_⟩
        refine ⟨trivial, ?_⟩
        obtain ⟨g18, h⟩ := of_guard h
        refine ⟨g18, ?_⟩
        obtain ⟨t15, ht15, h⟩ := of_bind h
        refine ⟨t15, ⟨slices_Clone_byte_byte.fun_ ht15, trivial⟩, ?_⟩
        refine ⟨trivial, ?_⟩
        obtain ⟨g17, h⟩ := of_guard h
        refine ⟨g17, ?_⟩
        obtain ⟨t16, ht16, h⟩ := of_bind h
        refine ⟨t16, ⟨slices_Clone_byte_byte.fun_ ht16, trivial⟩, ?_⟩
        refine ⟨trivial, ?_⟩
        refine ⟨trivial, trivial, ?_⟩
        refine ⟨trivial, ?_⟩
        obtain rfl := Option.some.inj h
        exact ⟨⟨trivial, trivial⟩, ⟨trivial, trivial⟩, rfl, rfl⟩
  · rw [if_pos (none_f (not_t b2))] at h
    refine ⟨b2, ?_⟩
    refine ⟨b2, ?_⟩
    refine ⟨rfl, ?_⟩
    refine ⟨trivial, ?_⟩
    refine ⟨trivial, ?_⟩
    refine ⟨trivial, ?_⟩
    obtain rfl := Option.some.inj h
    exact ⟨⟨trivial, trivial⟩, ⟨trivial, trivial, trivial, trivial⟩, rfl, rfl⟩
/-! halter/halterlaw18.sure -/
def halterlaw18_sure.f : Option Bool :=
  (pipe_Write.f ([] : List Int) (1 : Int) (1 : Int) [(97 : Int), (98 : Int), (99 : Int)]).bind fun t1 =>
  (pipe_Read.f t1.2.1 t1.2.2.1 t1.2.2.2.1 (2 : Int)).bind fun t2 =>
  (pipe_Read.f ([] : List Int) (0 : Int) (1 : Int) (1 : Int)).bind fun t3 =>
  (pipe_Write.f ([] : List Int) (0 : Int) (1 : Int) ([] : List Int)).bind fun t4 =>
  if t1.2.2.2.2 = none then
    if t2.2.2.2.2 = none then
      if t1.1 = (3 : Int) then
        if (strOfNums t2.1) = (⟨#[97, 98]⟩ : ByteArray) then
          if (strOfNums t2.2.1) = (⟨#[99]⟩ : ByteArray) then
            (num.f t3.2.2.2.2).bind fun t10 =>
            if t10 = (11 : Int) then
              (num.f t4.2.2.2.2).bind fun t12 =>
              some (t12 == (32 : Int))
            else
              some false
          else
            some false
        else
          some false
      else
        some false
    else
      some false
  else
    some false
def halterlaw18_sure.R (r : Bool) : Tm := .v (.one (.sc (.bool r)))
theorem halterlaw18_sure.fun_ {r : Bool} (h : halterlaw18_sure.f = some r) : Fun cfg 10 [] [] (halterlaw18_sure.R r) [] := by
  unfold halterlaw18_sure.f at h
  refine fun_of_run cfg_ok (f := 10) (fn := Tryd.f10) Tryd.func10 rfl (by kernel_rfl) (rs := [.tmp 0]) rfl (nt := 70) rfl (l := fin) (k := (.call true [(.int .u8)] (TY2) (fun t1 => pipe_Write.R t1) (fun t1 => (.call true [] (TY0) (fun t2 => pipe_Read.R t2) (fun t2 => (.call true [(.int .u8)] (TY0) (fun t3 => pipe_Read.R t3) (fun t3 => (.call true [(.int .u8), (.int .u8)] (TY2) (fun t4 => pipe_Write.R t4) (fun t4 => (.br (.one true (.one true (.br (.one true (.one true (.br (.one true (.d (.b false) (.one true (.one true (.br (.one true (.one true (.d (.b false) (.one true (.one true (.br (.one true (.call true [] (Int) (fun t10 => num.R t10) (fun t10 => (.one true (.one true (.br (.one true (.call true [] (Int) (fun t12 => num.R t12) (fun t12 => (.one true (.one true (.adj [] (.adj [.drop 0] .nil))))))) (.one false (.one false (.one false (.adj [] (.adj [.drop 0] .nil))))))))))) (.one false (.one false (.one false (.one false (.one false (.one false (.one false (.adj [] (.adj [.drop 0] .nil))))))))))))))) (.one false (.one false (.one false (.one false (.one false (.one false (.one false (.one false (.one false (.one false (.one false (.one false (.adj [] (.adj [.drop 0] .nil))))))))))))))))))) (.one false (.one false (.one false (.one false (.one false (.one false (.one false (.one false (.one false (.one false (.one false (.one false (.one false (.one false (.one false (.one false (.adj [] (.adj [.drop 0] .nil))))))))))))))))))))) (.one false (.one false (.one false (.one false (.one false (.one false (.one false (.one false (.one false (.one false (.one false (.one false (.one false (.one false (.one false (.one false (.one false (.one false (.one false (.adj [] (.adj [.drop 0] .nil)))))))))))))))))))))))) (.one false (.one false (.one false (.one false (.one false (.one false (.one false (.one false (.one false (.one false (.one false (.one false (.one false (.one false (.one false (.one false (.one false (.one false (.one false (.one false (.one false (.one false (.adj [] (.adj [.drop 0] .nil)))))))))))))))))))))))))))))))))) (to_goal (q := (0 < 3) ∧ (∃ t1 : TY2, ((0 = 0 ∧ 3 = 3) ∧ Fun cfg 7 [.agg [.c (.fs (.int .u8) ([] : List Int) false), .c (.sc (.int .i64 (1 : Int))), .c (.sc (.int .i64 (1 : Int)))], .one (.fs (.int .u8) [(97 : Int), (98 : Int), (99 : Int)] false)] [] (pipe_Write.R t1) [] ∧ True) ∧ (True) ∧ (True) ∧ (∃ t2 : TY0, (Fun cfg 9 [.agg [.c (.fs (.int .u8) t1.2.1 false), .c (.sc (.int .i64 (p2 t1))), .c (.sc (.int .i64 (p3 t1)))], .one (.sc (.int .i64 (2 : Int)))] [] (pipe_Read.R t2) [] ∧ True) ∧ (True) ∧ (∃ t3 : TY0, (Fun cfg 9 [.agg [.c (.fs (.int .u8) ([] : List Int) false), .c (.sc (.int .i64 (0 : Int))), .c (.sc (.int .i64 (1 : Int)))], .one (.sc (.int .i64 (1 : Int)))] [] (pipe_Read.R t3) [] ∧ True) ∧ (True) ∧ (∃ t4 : TY2, (Fun cfg 7 [.agg [.c (.fs (.int .u8) ([] : List Int) false), .c (.sc (.int .i64 (0 : Int))), .c (.sc (.int .i64 (1 : Int)))], .one (.fs (.int .u8) ([] : List Int) false)] [] (pipe_Write.R t4) [] ∧ True) ∧ (True) ∧ (True) ∧ (((Option.isNone (z4 t1)) = true → ((Option.isNone (z4 t1)) = true ∧ (True) ∧ ((Option.isNone (z4 t1)) = true ∧ (((Option.isNone (z4 t2)) = true → ((Option.isNone (z4 t2)) = true ∧ (True) ∧ ((Option.isNone (z4 t2)) = true ∧ (((t1.1 == (3 : Int)) = true → ((t1.1 == (3 : Int)) = true ∧ (True) ∧ ((t1.1 == (3 : Int)) = true ∧ (True) ∧ ((t1.1 == (3 : Int)) = true ∧ ((((strOfNums t2.1).toList == (⟨#[97, 98]⟩ : ByteArray).toList) = true → (((strOfNums t2.1).toList == (⟨#[97, 98]⟩ : ByteArray).toList) = true ∧ (True) ∧ (((strOfNums t2.1).toList == (⟨#[97, 98]⟩ : ByteArray).toList) = true ∧ (True) ∧ (((strOfNums t2.1).toList == (⟨#[97, 98]⟩ : ByteArray).toList) = true ∧ (True) ∧ (((strOfNums t2.1).toList == (⟨#[97, 98]⟩ : ByteArray).toList) = true ∧ ((((strOfNums t2.2.1).toList == (⟨#[99]⟩ : ByteArray).toList) = true → (((strOfNums t2.2.1).toList == (⟨#[99]⟩ : ByteArray).toList) = true ∧ (∃ t10 : Int, (Fun cfg 8 [.one (.err (z4 t3))] [] (num.R t10) [] ∧ True) ∧ (((strOfNums t2.2.1).toList == (⟨#[99]⟩ : ByteArray).toList) = true ∧ (True) ∧ (((strOfNums t2.2.1).toList == (⟨#[99]⟩ : ByteArray).toList) = true ∧ (((t10 == (11 : Int)) = true → ((t10 == (11 : Int)) = true ∧ (∃ t12 : Int, (Fun cfg 8 [.one (.err (z4 t4))] [] (num.R t12) [] ∧ True) ∧ ((t10 == (11 : Int)) = true ∧ (True) ∧ ((t10 == (11 : Int)) = true ∧ (True ∧ ((True) ∧ ((True) ∧ True) ∧ (.v (.one (.sc (.bool (t12 == (32 : Int))))) : Tm) = halterlaw18_sure.R r ∧ ([] : List Box) = []))))))) ∧ ((t10 == (11 : Int)) = false → ((t10 == (11 : Int)) = false ∧ ((t10 == (11 : Int)) = false ∧ ((t10 == (11 : Int)) = false ∧ (True ∧ ((True) ∧ ((True) ∧ True) ∧ (.v (.one (.sc (.bool false))) : Tm) = halterlaw18_sure.R r ∧ ([] : List Box) = [])))))))))))) ∧ (((strOfNums t2.2.1).toList == (⟨#[99]⟩ : ByteArray).toList) = false → (((strOfNums t2.2.1).toList == (⟨#[99]⟩ : ByteArray).toList) = false ∧ (((strOfNums t2.2.1).toList == (⟨#[99]⟩ : ByteArray).toList) = false ∧ (((strOfNums t2.2.1).toList == (⟨#[99]⟩ : ByteArray).toList) = false ∧ (false = false ∧ (false = false ∧ (false = false ∧ (false = false ∧ (True ∧ ((True) ∧ ((True) ∧ True) ∧ (.v (.one (.sc (.bool false))) : Tm) = halterlaw18_sure.R r ∧ ([] : List Box) = [])))))))))))))))) ∧ (((strOfNums t2.1).toList == (⟨#[97, 98]⟩ : ByteArray).toList) = false → (((strOfNums t2.1).toList == (⟨#[97, 98]⟩ : ByteArray).toList) = false ∧ (((strOfNums t2.1).toList == (⟨#[97, 98]⟩ : ByteArray).toList) = false ∧ (((strOfNums t2.1).toList == (⟨#[97, 98]⟩ : ByteArray).toList) = false ∧ (((strOfNums t2.1).toList == (⟨#[97, 98]⟩ : ByteArray).toList) = false ∧ (false = false ∧ (false = false ∧ (false = false ∧ (false = false ∧ (false = false ∧ (false = false ∧ (false = false ∧ (false = false ∧ (True ∧ ((True) ∧ ((True) ∧ True) ∧ (.v (.one (.sc (.bool false))) : Tm) = halterlaw18_sure.R r ∧ ([] : List Box) = [])))))))))))))))))))) ∧ ((t1.1 == (3 : Int)) = false → ((t1.1 == (3 : Int)) = false ∧ ((t1.1 == (3 : Int)) = false ∧ ((t1.1 == (3 : Int)) = false ∧ (false = false ∧ (false = false ∧ (false = false ∧ (false = false ∧ (false = false ∧ (false = false ∧ (false = false ∧ (false = false ∧ (false = false ∧ (false = false ∧ (false = false ∧ (false = false ∧ (false = false ∧ (True ∧ ((True) ∧ ((True) ∧ True) ∧ (.v (.one (.sc (.bool false))) : Tm) = halterlaw18_sure.R r ∧ ([] : List Box) = []))))))))))))))))))))))) ∧ ((Option.isNone (z4 t2)) = false → ((Option.isNone (z4 t2)) = false ∧ ((Option.isNone (z4 t2)) = false ∧ (false = false ∧ (false = false ∧ (false = false ∧ (false = false ∧ (false = false ∧ (false = false ∧ (false = false ∧ (false = false ∧ (false = false ∧ (false = false ∧ (false = false ∧ (false = false ∧ (false = false ∧ (false = false ∧ (false = false ∧ (false = false ∧ (false = false ∧ (True ∧ ((True) ∧ ((True) ∧ True) ∧ (.v (.one (.sc (.bool false))) : Tm) = halterlaw18_sure.R r ∧ ([] : List Box) = [])))))))))))))))))))))))))) ∧ ((Option.isNone (z4 t1)) = false → ((Option.isNone (z4 t1)) = false ∧ ((Option.isNone (z4 t1)) = false ∧ (false = false ∧ (false = false ∧ (false = false ∧ (false = false ∧ (false = false ∧ (false = false ∧ (false = false ∧ (false = false ∧ (false = false ∧ (false = false ∧ (false = false ∧ (false = false ∧ (false = false ∧ (false = false ∧ (false = false ∧ (false = false ∧ (false = false ∧ (false = false ∧ (false = false ∧ (false = false ∧ (True ∧ ((True) ∧ ((True) ∧ True) ∧ (.v (.one (.sc (.bool false))) : Tm) = halterlaw18_sure.R r ∧ ([] : List Box) = []))))))))))))))))))))))))))))))) (by kernel_rfl) ?_)
  refine ⟨(by decide), ?_⟩
  obtain ⟨t1, ht1, h⟩ := of_bind h
  refine ⟨t1, ⟨⟨rfl, rfl⟩, pipe_Write.fun_ ht1, trivial⟩, ?_⟩
  refine ⟨trivial, ?_⟩
  refine ⟨trivial, ?_⟩
  obtain ⟨t2, ht2, h⟩ := of_bind h
  refine ⟨t2, ⟨pipe_Read.fun_ ht2, trivial⟩, ?_⟩
  refine ⟨trivial, ?_⟩
  obtain ⟨t3, ht3, h⟩ := of_bind h
  refine ⟨t3, ⟨pipe_Read.fun_ ht3, trivial⟩, ?_⟩
  refine ⟨trivial, ?_⟩
  obtain ⟨t4, ht4, h⟩ := of_bind h
  refine ⟨t4, ⟨pipe_Write.fun_ ht4, trivial⟩, ?_⟩
  refine ⟨trivial, ?_⟩
  refine ⟨trivial, ?_⟩
  refine ⟨fun b5 => ?_, fun b5 => ?_⟩
  · rw [if_pos (none_t b5)] at h
    refine ⟨b5, ?_⟩
    refine ⟨trivial, ?_⟩
    refine ⟨b5, ?_⟩
    refine ⟨fun b6 => ?_, fun b6 => ?_⟩
    · rw [if_pos (none_t b6)] at h
      refine ⟨b6, ?_⟩
      refine ⟨trivial, ?_⟩
      refine ⟨b6, ?_⟩
      refine ⟨fun b7 => ?_, fun b7 => ?_⟩
      · rw [if_pos (beq_t b7)] at h
        refine ⟨b7, ?_⟩
        refine ⟨trivial, ?_⟩
        refine ⟨b7, ?_⟩
        refine ⟨trivial, ?_⟩
        refine ⟨b7, ?_⟩
        refine ⟨fun b8 => ?_, fun b8 => ?_⟩
        · rw [if_pos (str_t b8)] at h
          refine ⟨b8, ?_⟩
          refine ⟨trivial, ?_⟩
          refine ⟨b8, ?_⟩
          refine ⟨trivial, ?_⟩
          refine ⟨b8, ?_⟩
          refine ⟨trivial, ?_⟩
          refine ⟨b8, ?_⟩
          refine ⟨fun b9 => ?_, fun b9 => ?_⟩
          · rw [if_pos (str_t b9)] at h
            refine ⟨b9, ?_⟩
            obtain ⟨t10, ht10, h⟩ := of_bind h
            refine ⟨t10, ⟨num.fun_ ht10, trivial⟩, ?_⟩
            refine ⟨b9, ?_⟩
            refine ⟨trivial, ?_⟩
            refine ⟨b9, ?_⟩
            refine ⟨fun b11 => ?_, fun b11 => ?_⟩
            · rw [if_pos (beq_t b11)] at h
              refine ⟨b11, ?_⟩
              obtain ⟨t12, ht12, h⟩ := of_bind h
              refine ⟨t12, ⟨num.fun_ ht12, trivial⟩, ?_⟩
              refine ⟨b11, ?_⟩
              refine ⟨trivial, ?_⟩
              refine ⟨b11, ?_⟩
              refine ⟨trivial, ?_⟩
              obtain rfl := Option.some.inj h
              exact ⟨trivial, ⟨trivial, trivial⟩, rfl, rfl⟩
            · rw [if_neg (beq_f b11)] at h
              refine ⟨b11, ?_⟩
              refine ⟨b11, ?_⟩
              refine ⟨b11, ?_⟩
              refine ⟨trivial, ?_⟩
              obtain rfl := Option.some.inj h
              exact ⟨trivial, ⟨trivial, trivial⟩, rfl, rfl⟩
          · rw [if_neg (str_f b9)] at h
            refine ⟨b9, ?_⟩
            refine ⟨b9, ?_⟩
            refine ⟨b9, ?_⟩
            refine ⟨rfl, ?_⟩
            refine ⟨rfl, ?_⟩
            refine ⟨rfl, ?_⟩
            refine ⟨rfl, ?_⟩
            refine ⟨trivial, ?_⟩
            obtain rfl := Option.some.inj h
            exact ⟨trivial, ⟨trivial, trivial⟩, rfl, rfl⟩
        · rw [if_neg (str_f b8)] at h
          refine ⟨b8, ?_⟩
          refine ⟨b8, ?_⟩
          refine ⟨b8, ?_⟩
          refine ⟨b8, ?_⟩
          refine ⟨rfl, ?_⟩
          refine ⟨rfl, ?_⟩
          refine ⟨rfl, ?_⟩
          refine ⟨rfl, ?_⟩
          refine ⟨rfl, ?_⟩
          refine ⟨rfl, ?_⟩
          refine ⟨rfl, ?_⟩
          refine ⟨rfl, ?_⟩
          refine ⟨trivial, ?_⟩
          obtain rfl := Option.some.inj h
          exact ⟨trivial, ⟨trivial, trivial⟩, rfl, rfl⟩
      · rw [if_neg (beq_f b7)] at h
        refine ⟨b7, ?_⟩
        refine ⟨b7, ?_⟩
        refine ⟨b7, ?_⟩
        refine ⟨rfl, ?_⟩
        refine ⟨rfl, ?_⟩
        refine ⟨rfl, ?_⟩
        refine ⟨rfl, ?_⟩
        refine ⟨rfl, ?_⟩
        refine ⟨rfl, ?_⟩
        refine ⟨rfl, ?_⟩
        refine ⟨rfl, ?_⟩
        refine ⟨rfl, ?_⟩
        refine ⟨rfl, ?_⟩
        refine ⟨rfl, ?_⟩
        refine ⟨rfl, ?_⟩
        refine ⟨rfl, ?_⟩
        refine ⟨trivial, ?_⟩
        obtain rfl := Option.some.inj h
        exact ⟨trivial, ⟨trivial, trivial⟩, rfl, rfl⟩
    · rw [if_neg (none_f b6)] at h
      refine ⟨b6, ?_⟩
      refine ⟨b6, ?_⟩
      refine ⟨rfl, ?_⟩
      refine ⟨rfl, ?_⟩
      refine ⟨rfl, ?_⟩
      refine ⟨rfl, ?_⟩
      refine ⟨rfl, ?_⟩
      refine ⟨rfl, ?_⟩
      refine ⟨rfl, ?_⟩
      refine ⟨rfl, ?_⟩
      refine ⟨rfl, ?_⟩
      refine ⟨rfl, ?_⟩
      refine ⟨rfl, ?_⟩
      refine ⟨rfl, ?_⟩
      refine ⟨rfl, ?_⟩
      refine ⟨rfl, ?_⟩
      refine ⟨rfl, ?_⟩
      refine ⟨rfl, ?_⟩
      refine ⟨rfl, ?_⟩
      refine ⟨trivial, ?_⟩
      obtain rfl := Option.some.inj h
      exact ⟨trivial, ⟨trivial, trivial⟩, rfl, rfl⟩
  · rw [if_neg (none_f b5)] at h
    refine ⟨b5, ?_⟩
    refine ⟨b5, ?_⟩
    refine ⟨rfl, ?_⟩
    refine ⟨rfl, ?_⟩
    refine ⟨rfl, ?_⟩
    refine ⟨rfl, ?_⟩
    refine ⟨rfl, ?_⟩
    refine ⟨rfl, ?_⟩
    refine ⟨rfl, ?_⟩
    refine ⟨rfl, ?_⟩
    refine ⟨rfl, ?_⟩
    refine ⟨rfl, ?_⟩
    refine ⟨rfl, ?_⟩
    refine ⟨rfl, ?_⟩
    refine ⟨rfl, ?_⟩
    refine ⟨rfl, ?_⟩
    refine ⟨rfl, ?_⟩
    refine ⟨rfl, ?_⟩
    refine ⟨rfl, ?_⟩
    refine ⟨rfl, ?_⟩
    refine ⟨rfl, ?_⟩
    refine ⟨rfl, ?_⟩
    refine ⟨trivial, ?_⟩
    obtain rfl := Option.some.inj h
    exact ⟨trivial, ⟨trivial, trivial⟩, rfl, rfl⟩
/-! halter/halterlaw18.PipeOrder -/
def halterlaw18_PipeOrder.c0 (x127 : List Int) (t202 : TY2) (a0 : (List ((List Int) × Int))) (x129 : Int) (x128 : List Int) (t209 : TY0) : Bool := (!((strOfNums (x127 ++ (List.take (Int.toNat t202.1) (List.getD a0 (Int.toNat x129) (([] : List Int), (0 : Int))).1))).toList == ((strOfNums (x128 ++ t209.1)) ++ (strOfNums t209.2.1)).toList))
def halterlaw18_PipeOrder.c1 (x127 : List Int) (t202 : TY2) (a0 : (List ((List Int) × Int))) (x129 : Int) (x128 : List Int) (t224 : TY0) : Bool := (!((strOfNums (x127 ++ (List.take (Int.toNat t202.1) (List.getD a0 (Int.toNat x129) (([] : List Int), (0 : Int))).1))).toList == ((strOfNums (x128 ++ t224.1)) ++ (strOfNums t224.2.1)).toList))
def halterlaw18_PipeOrder.c2 (x127 : List Int) (t202 : TY2) (a0 : (List ((List Int) × Int))) (x129 : Int) (x128 : List Int) : Bool := (!((strOfNums (x127 ++ (List.take (Int.toNat t202.1) (List.getD a0 (Int.toNat x129) (([] : List Int), (0 : Int))).1))).toList == ((strOfNums x128) ++ (strOfNums t202.2.1)).toList))
def halterlaw18_PipeOrder.l0 (t1 : (List Int) × Int × Int × (Option Int)) (a0 : (List ((List Int) × Int))) : Nat → (List Int) → Int → Int → (List Int) → (List Int) → Int → Option ((TY1) ⊕ (TY1))
  | 0, _, _, _, _, _, _ => none
  | n + 1, x124, x125, x126, x127, x128, x129 =>
    if x129 < (((List.length a0) : Nat) : Int) then
      if x129 < (40 : Int) then
        if 0 ≤ x129 ∧ x129 < (((List.length a0) : Nat) : Int) then
          if (((List.length (List.getD a0 (Int.toNat x129) (([] : List Int), (0 : Int))).1) : Nat) : Int) > (200 : Int) then
            halterlaw18_PipeOrder.l0 t1 a0 n x124 x125 x126 x127 x128 (IntKind.wrap .i64 (x129 + (1 : Int)))
          else
            if 0 ≤ x129 ∧ x129 < (((List.length a0) : Nat) : Int) then
              (pipe_Write.f x124 x125 x126 (List.getD a0 (Int.toNat x129) (([] : List Int), (0 : Int))).1).bind fun t202 =>
              if t202.2.2.2.2 = none then
                if t202.1 < (0 : Int) then
                  some (.inr (x124, x125, x126, x127, x128))
                else
                  if 0 ≤ x129 ∧ x129 < (((List.length a0) : Nat) : Int) then
                    if t202.1 > (((List.length (List.getD a0 (Int.toNat x129) (([] : List Int), (0 : Int))).1) : Nat) : Int) then
                      some (.inr (x124, x125, x126, x127, x128))
                    else
                      if 0 ≤ x129 ∧ x129 < (((List.length a0) : Nat) : Int) then
                        if t202.1 < (((List.length (List.getD a0 (Int.toNat x129) (([] : List Int), (0 : Int))).1) : Nat) : Int) then
                          if ¬ (((List.length t202.2.1) : Nat) : Int) = (64 : Int) then
                            some (.inr (x124, x125, x126, x127, x128))
                          else
                            if 0 ≤ x129 ∧ x129 < (((List.length a0) : Nat) : Int) then
                              if 0 ≤ t202.1 ∧ t202.1 ≤ (((List.length (List.getD a0 (Int.toNat x129) (([] : List Int), (0 : Int))).1) : Nat) : Int) then
                                if True ∧ 0 = 0 ∧ (List.length x127) = (List.length x127) ∧ (((List.length x127) + (List.length (List.take (Int.toNat t202.1) (List.getD a0 (Int.toNat x129) (([] : List Int), (0 : Int))).1))) * 1 ≤ 140737488355328 ∧ (List.length x127) + (List.length (List.take (Int.toNat t202.1) (List.getD a0 (Int.toNat x129) (([] : List Int), (0 : Int))).1)) ≤ 9223372036854775807) then
                                  if 0 ≤ x129 ∧ x129 < (((List.length a0) : Nat) : Int) then
                                    (pipe_Read.f t202.2.1 t202.2.2.1 t202.2.2.2.1 (IntKind.wrap .i64 ((Int.tmod (IntKind.wrap .u64 ((List.getD a0 (Int.toNat x129) (([] : List Int), (0 : Int))).2)) (100 : Int))))).bind fun t209 =>
                                    if t209.2.2.2.2 = none then
                                      if True ∧ 0 = 0 ∧ (List.length x128) = (List.length x128) ∧ (((List.length x128) + (List.length t209.1)) * 1 ≤ 140737488355328 ∧ (List.length x128) + (List.length t209.1) ≤ 9223372036854775807) then
                                        if (((List.length t209.2.1) : Nat) : Int) > (64 : Int) then
                                          some (.inr (t209.2.1, t209.2.2.1, t209.2.2.2.1, (x127 ++ (List.take (Int.toNat t202.1) (List.getD a0 (Int.toNat x129) (([] : List Int), (0 : Int))).1)), (x128 ++ t209.1)))
                                        else
                                          if ByteArray.size (strOfNums (x128 ++ t209.1)) + ByteArray.size (strOfNums t209.2.1) ≤ 9223372036854775807 then
                                            if ¬ ((strOfNums (x127 ++ (List.take (Int.toNat t202.1) (List.getD a0 (Int.toNat x129) (([] : List Int), (0 : Int))).1))) = ((strOfNums (x128 ++ t209.1)) ++ (strOfNums t209.2.1))) then
                                              some (.inr (t209.2.1, t209.2.2.1, t209.2.2.2.1, (x127 ++ (List.take (Int.toNat t202.1) (List.getD a0 (Int.toNat x129) (([] : List Int), (0 : Int))).1)), (x128 ++ t209.1)))
                                            else
                                              halterlaw18_PipeOrder.l0 t1 a0 n t209.2.1 t209.2.2.1 t209.2.2.2.1 (x127 ++ (List.take (Int.toNat t202.1) (List.getD a0 (Int.toNat x129) (([] : List Int), (0 : Int))).1)) (x128 ++ t209.1) (IntKind.wrap .i64 (x129 + (1 : Int)))
                                          else none
                                      else none
                                    else
                                      (num.f t209.2.2.2.2).bind fun t215 =>
                                      if ¬ t215 = (11 : Int) then
                                        some (.inr (t202.2.1, t202.2.2.1, t202.2.2.2.1, (x127 ++ (List.take (Int.toNat t202.1) (List.getD a0 (Int.toNat x129) (([] : List Int), (0 : Int))).1)), x128))
                                      else
                                        if (((List.length t202.2.1) : Nat) : Int) > (64 : Int) then
                                          some (.inr (t202.2.1, t202.2.2.1, t202.2.2.2.1, (x127 ++ (List.take (Int.toNat t202.1) (List.getD a0 (Int.toNat x129) (([] : List Int), (0 : Int))).1)), x128))
                                        else
                                          if ByteArray.size (strOfNums x128) + ByteArray.size (strOfNums t202.2.1) ≤ 9223372036854775807 then
                                            if ¬ ((strOfNums (x127 ++ (List.take (Int.toNat t202.1) (List.getD a0 (Int.toNat x129) (([] : List Int), (0 : Int))).1))) = ((strOfNums x128) ++ (strOfNums t202.2.1))) then
                                              some (.inr (t202.2.1, t202.2.2.1, t202.2.2.2.1, (x127 ++ (List.take (Int.toNat t202.1) (List.getD a0 (Int.toNat x129) (([] : List Int), (0 : Int))).1)), x128))
                                            else
                                              halterlaw18_PipeOrder.l0 t1 a0 n t202.2.1 t202.2.2.1 t202.2.2.2.1 (x127 ++ (List.take (Int.toNat t202.1) (List.getD a0 (Int.toNat x129) (([] : List Int), (0 : Int))).1)) x128 (IntKind.wrap .i64 (x129 + (1 : Int)))
                                          else none
                                  else none
                                else none
                              else none
                            else none
                        else
                          if 0 ≤ x129 ∧ x129 < (((List.length a0) : Nat) : Int) then
                            if 0 ≤ t202.1 ∧ t202.1 ≤ (((List.length (List.getD a0 (Int.toNat x129) (([] : List Int), (0 : Int))).1) : Nat) : Int) then
                              if True ∧ 0 = 0 ∧ (List.length x127) = (List.length x127) ∧ (((List.length x127) + (List.length (List.take (Int.toNat t202.1) (List.getD a0 (Int.toNat x129) (([] : List Int), (0 : Int))).1))) * 1 ≤ 140737488355328 ∧ (List.length x127) + (List.length (List.take (Int.toNat t202.1) (List.getD a0 (Int.toNat x129) (([] : List Int), (0 : Int))).1)) ≤ 9223372036854775807) then
                                if 0 ≤ x129 ∧ x129 < (((List.length a0) : Nat) : Int) then
                                  (pipe_Read.f t202.2.1 t202.2.2.1 t202.2.2.2.1 (IntKind.wrap .i64 ((Int.tmod (IntKind.wrap .u64 ((List.getD a0 (Int.toNat x129) (([] : List Int), (0 : Int))).2)) (100 : Int))))).bind fun t224 =>
                                  if t224.2.2.2.2 = none then
                                    if True ∧ 0 = 0 ∧ (List.length x128) = (List.length x128) ∧ (((List.length x128) + (List.length t224.1)) * 1 ≤ 140737488355328 ∧ (List.length x128) + (List.length t224.1) ≤ 9223372036854775807) then
                                      if (((List.length t224.2.1) : Nat) : Int) > (64 : Int) then
                                        some (.inr (t224.2.1, t224.2.2.1, t224.2.2.2.1, (x127 ++ (List.take (Int.toNat t202.1) (List.getD a0 (Int.toNat x129) (([] : List Int), (0 : Int))).1)), (x128 ++ t224.1)))
                                      else
                                        if ByteArray.size (strOfNums (x128 ++ t224.1)) + ByteArray.size (strOfNums t224.2.1) ≤ 9223372036854775807 then
                                          if ¬ ((strOfNums (x127 ++ (List.take (Int.toNat t202.1) (List.getD a0 (Int.toNat x129) (([] : List Int), (0 : Int))).1))) = ((strOfNums (x128 ++ t224.1)) ++ (strOfNums t224.2.1))) then
                                            some (.inr (t224.2.1, t224.2.2.1, t224.2.2.2.1, (x127 ++ (List.take (Int.toNat t202.1) (List.getD a0 (Int.toNat x129) (([] : List Int), (0 : Int))).1)), (x128 ++ t224.1)))
                                          else
                                            halterlaw18_PipeOrder.l0 t1 a0 n t224.2.1 t224.2.2.1 t224.2.2.2.1 (x127 ++ (List.take (Int.toNat t202.1) (List.getD a0 (Int.toNat x129) (([] : List Int), (0 : Int))).1)) (x128 ++ t224.1) (IntKind.wrap .i64 (x129 + (1 : Int)))
                                        else none
                                    else none
                                  else
                                    (num.f t224.2.2.2.2).bind fun t230 =>
                                    if ¬ t230 = (11 : Int) then
                                      some (.inr (t202.2.1, t202.2.2.1, t202.2.2.2.1, (x127 ++ (List.take (Int.toNat t202.1) (List.getD a0 (Int.toNat x129) (([] : List Int), (0 : Int))).1)), x128))
                                    else
                                      if (((List.length t202.2.1) : Nat) : Int) > (64 : Int) then
                                        some (.inr (t202.2.1, t202.2.2.1, t202.2.2.2.1, (x127 ++ (List.take (Int.toNat t202.1) (List.getD a0 (Int.toNat x129) (([] : List Int), (0 : Int))).1)), x128))
                                      else
                                        if ByteArray.size (strOfNums x128) + ByteArray.size (strOfNums t202.2.1) ≤ 9223372036854775807 then
                                          if ¬ ((strOfNums (x127 ++ (List.take (Int.toNat t202.1) (List.getD a0 (Int.toNat x129) (([] : List Int), (0 : Int))).1))) = ((strOfNums x128) ++ (strOfNums t202.2.1))) then
                                            some (.inr (t202.2.1, t202.2.2.1, t202.2.2.2.1, (x127 ++ (List.take (Int.toNat t202.1) (List.getD a0 (Int.toNat x129) (([] : List Int), (0 : Int))).1)), x128))
                                          else
                                            halterlaw18_PipeOrder.l0 t1 a0 n t202.2.1 t202.2.2.1 t202.2.2.2.1 (x127 ++ (List.take (Int.toNat t202.1) (List.getD a0 (Int.toNat x129) (([] : List Int), (0 : Int))).1)) x128 (IntKind.wrap .i64 (x129 + (1 : Int)))
                                        else none
                                else none
                              else none
                            else none
                          else none
                      else none
                  else none
              else
                (num.f t202.2.2.2.2).bind fun t240 =>
                if ¬ t240 = (11 : Int) then
                  some (.inr (x124, x125, x126, x127, x128))
                else
                  if 0 ≤ x129 ∧ x129 < (((List.length a0) : Nat) : Int) then
                    (pipe_Read.f x124 x125 x126 (IntKind.wrap .i64 ((Int.tmod (IntKind.wrap .u64 ((List.getD a0 (Int.toNat x129) (([] : List Int), (0 : Int))).2)) (100 : Int))))).bind fun t243 =>
                    if t243.2.2.2.2 = none then
                      if True ∧ 0 = 0 ∧ (List.length x128) = (List.length x128) ∧ (((List.length x128) + (List.length t243.1)) * 1 ≤ 140737488355328 ∧ (List.length x128) + (List.length t243.1) ≤ 9223372036854775807) then
                        if (((List.length t243.2.1) : Nat) : Int) > (64 : Int) then
                          some (.inr (t243.2.1, t243.2.2.1, t243.2.2.2.1, x127, (x128 ++ t243.1)))
                        else
                          if ByteArray.size (strOfNums (x128 ++ t243.1)) + ByteArray.size (strOfNums t243.2.1) ≤ 9223372036854775807 then
                            if ¬ ((strOfNums x127) = ((strOfNums (x128 ++ t243.1)) ++ (strOfNums t243.2.1))) then
                              some (.inr (t243.2.1, t243.2.2.1, t243.2.2.2.1, x127, (x128 ++ t243.1)))
                            else
                              halterlaw18_PipeOrder.l0 t1 a0 n t243.2.1 t243.2.2.1 t243.2.2.2.1 x127 (x128 ++ t243.1) (IntKind.wrap .i64 (x129 + (1 : Int)))
                          else none
                      else none
                    else
                      (num.f t243.2.2.2.2).bind fun t249 =>
                      if ¬ t249 = (11 : Int) then
                        some (.inr (x124, x125, x126, x127, x128))
                      else
                        if (((List.length x124) : Nat) : Int) > (64 : Int) then
                          some (.inr (x124, x125, x126, x127, x128))
                        else
                          if ByteArray.size (strOfNums x128) + ByteArray.size (strOfNums x124) ≤ 9223372036854775807 then
                            if ¬ ((strOfNums x127) = ((strOfNums x128) ++ (strOfNums x124))) then
                              some (.inr (x124, x125, x126, x127, x128))
                            else
                              halterlaw18_PipeOrder.l0 t1 a0 n x124 x125 x126 x127 x128 (IntKind.wrap .i64 (x129 + (1 : Int)))
                          else none
                  else none
            else none
        else none
      else
        some (.inl (x124, x125, x126, x127, x128))
    else
      some (.inl (x124, x125, x126, x127, x128))
def halterlaw18_PipeOrder.l0_S (t1 : (List Int) × Int × Int × (Option Int)) (a0 : (List ((List Int) × Int))) (x124 : List Int) (x125 : Int) (x126 : Int) (x127 : List Int) (x128 : List Int) (x129 : Int) : St := ⟨[.v (.one (.fs (.pair (.sl (.int .u8)) (.int .i64)) a0 false)), .any, .any, .any, .any, .v (.one (.ptr 1 ⟨0, 0, 0, 0⟩)), .any, .v (.one (.os 2 0 0 1 (List.length x127) none)), .v (.one (.os 3 0 0 1 (List.length x128) none)), .v (.one (.sc (.int .i64 x129))), .any, .any, .any, .any, .any, .any, .any, .any, .any, .any, .any, .any, .any, .any, .any, .any, .any, .any, .any, .any, .any, .any, .any, .any, .any, .any, .any, .any, .any, .any, .any, .any, .any, .any, .any, .any, .any, .any, .any, .any, .any, .any, .any, .any, .any, .any, .any, .any, .any, .any, .any, .any, .any, .any, .any, .any, .any, .any, .any, .any, .any, .any, .any, .any, .any, .any, .any, .any, .any, .any, .any, .any, .any, .any, .any, .any, .any, .any, .any, .any, .any, .any, .any, .any, .any, .any, .any, .any, .any, .any, .any, .any, .any, .any, .any, .any, .any, .any, .any, .any, .any, .any, .any, .any, .any, .any, .any, .any, .any, .any, .any, .any, .any, .any, .any, .any, .any, .any, .any, .any, .any, .any, .any, .any, .any, .any, .any, .any, .any, .any, .any, .any], [.ex false [.c (.fs (.int .u8) t1.1 false), .c (.sc (.int .i64 t1.2.1)), .c (.sc (.int .i64 t1.2.2.1))] 25, .ex false [.c (.fs (.int .u8) x124 false), .c (.sc (.int .i64 x125)), .c (.sc (.int .i64 x126))] 25, .gro false (.int .u8) x127 5, .gro false (.int .u8) x128 5], 0⟩
def halterlaw18_PipeOrder.l0_Q (t1 : (List Int) × Int × Int × (Option Int)) (a0 : (List ((List Int) × Int))) : (TY1) ⊕ (TY1) → Exit → St → Prop
  | .inl t => fun e s => e = (.exit 0) ∧ s = ⟨[.any, .any, .any, .any, .any, .any, .any, .any, .any, .any, .any, .any, .any, .any, .any, .any, .any, .any, .any, .any, .any, .any, .any, .any, .any, .any, .any, .any, .any, .any, .any, .any, .any, .any, .any, .any, .any, .any, .any, .any, .any, .any, .any, .any, .any, .any, .any, .any, .any, .any, .any, .any, .any, .any, .any, .any, .any, .any, .any, .any, .any, .any, .any, .any, .any, .any, .any, .any, .any, .any, .any, .any, .any, .any, .any, .any, .any, .any, .any, .any, .any, .any, .any, .any, .any, .any, .any, .any, .any, .any, .any, .any, .any, .any, .any, .any, .any, .any, .any, .any, .any, .any, .any, .any, .any, .any, .any, .any, .any, .any, .any, .any, .any, .any, .any, .any, .any, .any, .any, .any, .any, .any, .any, .any, .any, .any, .any, .any, .any, .any, .any, .any, .any, .any, .any, .any, .any, .any, .any, .any, .any, .any], [.ex false [.c (.fs (.int .u8) t1.1 false), .c (.sc (.int .i64 t1.2.1)), .c (.sc (.int .i64 t1.2.2.1))] 25, .ex false [.c (.fs (.int .u8) t.1 false), .c (.sc (.int .i64 t.2.1)), .c (.sc (.int .i64 t.2.2.1))] 25, .gro false (.int .u8) t.2.2.2.1 5, .gro false (.int .u8) t.2.2.2.2 5], 0⟩
  | .inr t => fun e s => e = .ret ∧ s = ⟨[.any, .any, .v (.one (.sc (.bool false))), .any, .any, .any, .any, .any, .any, .any, .any, .any, .any, .any, .any, .any, .any, .any, .any, .any, .any, .any, .any, .any, .any, .any, .any, .any, .any, .any, .any, .any, .any, .any, .any, .any, .any, .any, .any, .any, .any, .any, .any, .any, .any, .any, .any, .any, .any, .any, .any, .any, .any, .any, .any, .any, .any, .any, .any, .any, .any, .any, .any, .any, .any, .any, .any, .any, .any, .any, .any, .any, .any, .any, .any, .any, .any, .any, .any, .any, .any, .any, .any, .any, .any, .any, .any, .any, .any, .any, .any, .any, .any, .any, .any, .any, .any, .any, .any, .any, .any, .any, .any, .any, .any, .any, .any, .any, .any, .any, .any, .any, .any, .any, .any, .any, .any, .any, .any, .any, .any, .any, .any, .any, .any, .any, .any, .any, .any, .any, .any, .any, .any, .any, .any, .any, .any, .any, .any, .any, .any, .any], [.ex false [.c (.fs (.int .u8) t1.1 false), .c (.sc (.int .i64 t1.2.1)), .c (.sc (.int .i64 t1.2.2.1))] 25, .ex false [.c (.fs (.int .u8) t.1 false), .c (.sc (.int .i64 t.2.1)), .c (.sc (.int .i64 t.2.2.1))] 25, .gro false (.int .u8) t.2.2.2.1 5, .gro false (.int .u8) t.2.2.2.2 5], 0⟩
theorem halterlaw18_PipeOrder.l0_ok (t1 : (List Int) × Int × Int × (Option Int)) (a0 : (List ((List Int) × Int))) : ∀ (n : Nat) (x124 : List Int) (x125 : Int) (x126 : Int) (x127 : List Int) (x128 : List Int) (x129 : Int) (r : (TY1) ⊕ (TY1)), halterlaw18_PipeOrder.l0 t1 a0 n x124 x125 x126 x127 x128 x129 = some r → TripN cfg (cpath (Tryd.f3.body.getD .skip) [1, 1, 1, 1, 1, 0, 1, 0, 0]) n (halterlaw18_PipeOrder.l0_S t1 a0 x124 x125 x126 x127 x128 x129) (halterlaw18_PipeOrder.l0_Q t1 a0 r) := by
  intro n
  induction n with
  | zero => intro x124 x125 x126 x127 x128 x129 r h; cases h
  | succ n ih =>
    intro x124 x125 x126 x127 x128 x129 r h
    rw [halterlaw18_PipeOrder.l0] at h
    refine TripN.of_run cfg_ok (k := (.br (.one true (.one true (.br (.br (.adj [] (.adj [] (.adj [.keep [0, 5, 7, 8, 9], .drop 4] .nil))) (.ex (TY2) (fun t202 => (.dr [(1, dN), (2, dN), (3, dN), (4, dN), (0, dN), (5, dN), (6, ⟨none, .callP true [] (pipe_Write.R t202), false⟩), (7, dN), (8, dN), (9, dN), (10, dN), (11, dN), (12, dN), (13, dN), (14, dN)] (.br (.br (.one true (.one true (.one true (.one true (.one true (.one true (.one true (.one true (.one true (.one true (.one true (.one true (.one true (.one true (.one true (.one true (.one true (.one true (.one true (.one true (.adj [] (.adj [.keep [2], .drop 4] .nil)))))))))))))))))))))) (.one false (.one false (.one false (.one false (.one false (.one false (.one false (.one false (.br (.one true (.one true (.one true (.one true (.one true (.one true (.one true (.one true (.one true (.one true (.one true (.adj [] (.adj [.keep [2], .drop 4] .nil))))))))))))) (.one false (.one false (.one false (.one false (.one false (.one false (.one false (.one false (.br (.one true (.one true (.one true (.one false (.one true (.one false (.br (.adj [] (.adj [.keep [2], .drop 4] .nil)) (.d (.b false) (.ex (TY0) (fun t209 => (.dr [(1, dN), (2, dN), (3, dN), (4, dN), (0, dN), (5, dN), (6, dN), (7, dN), (8, dN), (9, ⟨none, .callP true [] (pipe_Read.R t209), false⟩), (10, dN), (11, dN), (12, dN), (13, dN), (14, dN), (15, dN), (16, dN), (17, dN)] (.br (.d (.b false) (.br (.one true (.one true (.one true (.one true (.one true (.one true (.one true (.one true (.one true (.one true (.adj [] (.adj [.keep [2], .drop 4] .nil)))))))))))) (.one false (.d (.b true) (.one false (.one false (.d (.b true) (.one false (.one false (.one false (.d (.b false) (.one false (.one false (.one false (.br (.adj [] (.adj [.keep [2], .drop 4] .nil)) (.adj [] (.adj [] (.adj [.keep [0, 5, 7, 8, 9], .drop 4] .nil)))))))))))))))))) (.call true [] (Int) (fun t215 => num.R t215) (fun t215 => (.br (.adj [] (.adj [.keep [2], .drop 4] .nil)) (.br (.one true (.one true (.one true (.one true (.one true (.one true (.one true (.one true (.one true (.one true (.adj [] (.adj [.keep [2], .drop 4] .nil)))))))))))) (.one false (.d (.b true) (.one false (.one false (.d (.b true) (.one false (.one false (.one false (.d (.b false) (.one false (.one false (.one false (.br (.adj [] (.adj [.keep [2], .drop 4] .nil)) (.adj [] (.adj [] (.adj [.keep [0, 5, 7, 8, 9], .drop 4] .nil)))))))))))))))))))))))))))))))) (.one false (.one false (.one false (.one false (.one false (.one false (.one false (.d (.b false) (.ex (TY0) (fun t224 => (.dr [(1, dN), (2, dN), (3, dN), (4, dN), (0, dN), (5, dN), (6, dN), (7, dN), (8, dN), (9, ⟨none, .callP true [] (pipe_Read.R t224), false⟩), (10, dN), (11, dN), (12, dN), (13, dN), (14, dN), (15, dN), (16, dN), (17, dN)] (.br (.d (.b false) (.br (.one true (.one true (.one true (.one true (.one true (.one true (.one true (.one true (.one true (.one true (.adj [] (.adj [.keep [2], .drop 4] .nil)))))))))))) (.one false (.d (.b true) (.one false (.one false (.d (.b true) (.one false (.one false (.one false (.d (.b false) (.one false (.one false (.one false (.br (.adj [] (.adj [.keep [2], .drop 4] .nil)) (.adj [] (.adj [] (.adj [.keep [0, 5, 7, 8, 9], .drop 4] .nil)))))))))))))))))) (.call true [] (Int) (fun t230 => num.R t230) (fun t230 => (.br (.adj [] (.adj [.keep [2], .drop 4] .nil)) (.br (.one true (.one true (.one true (.one true (.one true (.one true (.one true (.one true (.one true (.one true (.adj [] (.adj [.keep [2], .drop 4] .nil)))))))))))) (.one false (.d (.b true) (.one false (.one false (.d (.b true) (.one false (.one false (.one false (.d (.b false) (.one false (.one false (.one false (.br (.adj [] (.adj [.keep [2], .drop 4] .nil)) (.adj [] (.adj [] (.adj [.keep [0, 5, 7, 8, 9], .drop 4] .nil))))))))))))))))))))))))))))))))))))))))))))))))))) (.call true [] (Int) (fun t240 => num.R t240) (fun t240 => (.br (.adj [] (.adj [.keep [2], .drop 4] .nil)) (.ex (TY0) (fun t243 => (.dr [(1, dN), (2, dN), (3, dN), (4, dN), (0, dN), (5, dN), (6, dN), (7, dN), (8, dN), (9, ⟨none, .callP true [] (pipe_Read.R t243), false⟩), (10, dN), (11, dN), (12, dN), (13, dN), (14, dN), (15, dN), (16, dN), (17, dN)] (.br (.d (.b false) (.br (.one true (.one true (.one true (.one true (.one true (.one true (.one true (.one true (.one true (.one true (.adj [] (.adj [.keep [2], .drop 4] .nil)))))))))))) (.one false (.d (.b true) (.one false (.one false (.d (.b true) (.one false (.one false (.one false (.d (.b false) (.one false (.one false (.one false (.br (.adj [] (.adj [.keep [2], .drop 4] .nil)) (.adj [] (.adj [] (.adj [.keep [0, 5, 7, 8, 9], .drop 4] .nil)))))))))))))))))) (.call true [] (Int) (fun t249 => num.R t249) (fun t249 => (.br (.adj [] (.adj [.keep [2], .drop 4] .nil)) (.br (.one true (.one true (.one true (.one true (.one true (.one true (.one true (.one true (.one true (.one true (.adj [] (.adj [.keep [2], .drop 4] .nil)))))))))))) (.one false (.d (.b true) (.one false (.one false (.d (.b true) (.one false (.one false (.one false (.d (.b false) (.one false (.one false (.one false (.br (.adj [] (.adj [.keep [2], .drop 4] .nil)) (.adj [] (.adj [] (.adj [.keep [0, 5, 7, 8, 9], .drop 4] .nil)))))))))))))))))))))))))))))))) (.adj [.keep [], .drop 4] .nil)))) (.one false (.one false (.one false (.adj [.keep [], .drop 4] .nil)))))) (to_goal (q := (True) ∧ (True) ∧ (((decide (x129 < (((List.length a0) : Nat) : Int))) = true → ((decide (x129 < (((List.length a0) : Nat) : Int))) = true ∧ (True) ∧ ((decide (x129 < (((List.length a0) : Nat) : Int))) = true ∧ (((decide (x129 < (40 : Int))) = true → (0 ≤ x129 ∧ x129 < (((List.length a0) : Nat) : Int)) ∧ (True) ∧ (True) ∧ (True) ∧ (((decide ((((List.length (List.getD a0 (Int.toNat x129) (([] : List Int), (0 : Int))).1) : Nat) : Int) > (200 : Int))) = true → (True ∧ (True ∧ (True) ∧ (((True) ∧ (True) ∧ True) ∧ TripN cfg (cpath (Tryd.f3.body.getD .skip) [1, 1, 1, 1, 1, 0, 1, 0, 0]) n (halterlaw18_PipeOrder.l0_S t1 a0 x124 x125 x126 x127 x128 (IntKind.wrap .i64 (x129 + (1 : Int)))) (halterlaw18_PipeOrder.l0_Q t1 a0 r))))) ∧ ((decide ((((List.length (List.getD a0 (Int.toNat x129) (([] : List Int), (0 : Int))).1) : Nat) : Int) > (200 : Int))) = false → (∃ t202 : TY2, (0 ≤ x129 ∧ x129 < (((List.length a0) : Nat) : Int)) ∧ (True) ∧ (True) ∧ (Fun cfg 7 [.agg [.c (.fs (.int .u8) x124 false), .c (.sc (.int .i64 x125)), .c (.sc (.int .i64 x126))], .one (.fs (.int .u8) (List.getD a0 (Int.toNat x129) (([] : List Int), (0 : Int))).1 false)] [] (pipe_Write.R t202) [] ∧ True) ∧ (True) ∧ (True) ∧ (((Option.isNone (z4 t202)) = true → (True) ∧ (((decide (t202.1 < (0 : Int))) = false → ((decide (t202.1 < (0 : Int))) = false ∧ ((decide (t202.1 < (0 : Int))) = false ∧ ((decide (t202.1 < (0 : Int))) = false ∧ (0 ≤ x129 ∧ x129 < (((List.length a0) : Nat) : Int)) ∧ ((decide (t202.1 < (0 : Int))) = false ∧ ((decide (t202.1 < (0 : Int))) = false ∧ (True) ∧ ((decide (t202.1 < (0 : Int))) = false ∧ (True) ∧ ((decide (t202.1 < (0 : Int))) = false ∧ (True) ∧ ((decide (t202.1 < (0 : Int))) = false ∧ (((decide (t202.1 > (((List.length (List.getD a0 (Int.toNat x129) (([] : List Int), (0 : Int))).1) : Nat) : Int))) = false → ((decide (t202.1 > (((List.length (List.getD a0 (Int.toNat x129) (([] : List Int), (0 : Int))).1) : Nat) : Int))) = false ∧ ((decide (t202.1 > (((List.length (List.getD a0 (Int.toNat x129) (([] : List Int), (0 : Int))).1) : Nat) : Int))) = false ∧ ((decide (t202.1 > (((List.length (List.getD a0 (Int.toNat x129) (([] : List Int), (0 : Int))).1) : Nat) : Int))) = false ∧ (0 ≤ x129 ∧ x129 < (((List.length a0) : Nat) : Int)) ∧ ((decide (t202.1 > (((List.length (List.getD a0 (Int.toNat x129) (([] : List Int), (0 : Int))).1) : Nat) : Int))) = false ∧ ((decide (t202.1 > (((List.length (List.getD a0 (Int.toNat x129) (([] : List Int), (0 : Int))).1) : Nat) : Int))) = false ∧ (True) ∧ ((decide (t202.1 > (((List.length (List.getD a0 (Int.toNat x129) (([] : List Int), (0 : Int))).1) : Nat) : Int))) = false ∧ (True) ∧ ((decide (t202.1 > (((List.length (List.getD a0 (Int.toNat x129) (([] : List Int), (0 : Int))).1) : Nat) : Int))) = false ∧ (True) ∧ ((decide (t202.1 > (((List.length (List.getD a0 (Int.toNat x129) (([] : List Int), (0 : Int))).1) : Nat) : Int))) = false ∧ (((decide (t202.1 < (((List.length (List.getD a0 (Int.toNat x129) (([] : List Int), (0 : Int))).1) : Nat) : Int))) = true → ((decide (t202.1 < (((List.length (List.getD a0 (Int.toNat x129) (([] : List Int), (0 : Int))).1) : Nat) : Int))) = true ∧ (True) ∧ ((decide (t202.1 < (((List.length (List.getD a0 (Int.toNat x129) (([] : List Int), (0 : Int))).1) : Nat) : Int))) = true ∧ (True) ∧ ((decide (t202.1 < (((List.length (List.getD a0 (Int.toNat x129) (([] : List Int), (0 : Int))).1) : Nat) : Int))) = true ∧ (True) ∧ ((decide (t202.1 > (((List.length (List.getD a0 (Int.toNat x129) (([] : List Int), (0 : Int))).1) : Nat) : Int))) = false ∧ ((decide (t202.1 < (((List.length (List.getD a0 (Int.toNat x129) (([] : List Int), (0 : Int))).1) : Nat) : Int))) = true ∧ ((decide (t202.1 > (((List.length (List.getD a0 (Int.toNat x129) (([] : List Int), (0 : Int))).1) : Nat) : Int))) = false ∧ ((((((List.length t202.2.1) : Nat) : Int) != (64 : Int)) = true → (True ∧ (((True) ∧ (True) ∧ True) ∧ halterlaw18_PipeOrder.l0_Q t1 a0 r .ret ⟨[.any, .any, .v (.one (.sc (.bool false))), .any, .any, .any, .any, .any, .any, .any, .any, .any, .any, .any, .any, .any, .any, .any, .any, .any, .any, .any, .any, .any, .any, .any, .any, .any, .any, .any, .any, .any, .any, .any, .any, .any, .any, .any, .any, .any, .any, .any, .any, .any, .any, .any, .any, .any, .any, .any, .any, .any, .any, .any, .any, .any, .any, .any, .any, .any, .any, .any, .any, .any, .any, .any, .any, .any, .any, .any, .any, .any, .any, .any, .any, .any, .any, .any, .any, .any, .any, .any, .any, .any, .any, .any, .any, .any, .any, .any, .any, .any, .any, .any, .any, .any, .any, .any, .any, .any, .any, .any, .any, .any, .any, .any, .any, .any, .any, .any, .any, .any, .any, .any, .any, .any, .any, .any, .any, .any, .any, .any, .any, .any, .any, .any, .any, .any, .any, .any, .any, .any, .any, .any, .any, .any, .any, .any, .any, .any, .any, .any], [.ex false [.c (.fs (.int .u8) t1.1 false), .c (.sc (.int .i64 t1.2.1)), .c (.sc (.int .i64 (p2 t1)))] 25, .ex false [.c (.fs (.int .u8) x124 false), .c (.sc (.int .i64 x125)), .c (.sc (.int .i64 x126))] 25, .gro false (.int .u8) x127 5, .gro false (.int .u8) x128 5], 0⟩))) ∧ (((((List.length t202.2.1) : Nat) : Int) != (64 : Int)) = false → (0 ≤ x129 ∧ x129 < (((List.length a0) : Nat) : Int)) ∧ (True) ∧ (0 ≤ t202.1 ∧ t202.1 ≤ (((List.length (List.getD a0 (Int.toNat x129) (([] : List Int), (0 : Int))).1) : Nat) : Int)) ∧ (True ∧ 0 = 0 ∧ (List.length x127) = (List.length x127) ∧ (((List.length x127) + (List.length (List.take (Int.toNat t202.1) (List.getD a0 (Int.toNat x129) (([] : List Int), (0 : Int))).1))) * 1 ≤ 140737488355328 ∧ (List.length x127) + (List.length (List.take (Int.toNat t202.1) (List.getD a0 (Int.toNat x129) (([] : List Int), (0 : Int))).1)) ≤ 9223372036854775807)) ∧ (True) ∧ (True) ∧ (∃ t209 : TY0, (0 ≤ x129 ∧ x129 < (((List.length a0) : Nat) : Int)) ∧ (True) ∧ (True) ∧ (True) ∧ ((100 : Int) ≠ 0) ∧ (True) ∧ (Fun cfg 9 [.agg [.c (.fs (.int .u8) t202.2.1 false), .c (.sc (.int .i64 (p2 t202))), .c (.sc (.int .i64 (p3 t202)))], .one (.sc (.int .i64 (IntKind.wrap .i64 ((Int.tmod (IntKind.wrap .u64 ((List.getD a0 (Int.toNat x129) (([] : List Int), (0 : Int))).2)) (100 : Int))))))] [] (pipe_Read.R t209) [] ∧ True) ∧ (True) ∧ (True) ∧ (((Option.isNone (z4 t209)) = true → (True ∧ 0 = 0 ∧ (List.length x128) = (List.length x128) ∧ (((List.length x128) + (List.length t209.1)) * 1 ≤ 140737488355328 ∧ (List.length x128) + (List.length t209.1) ≤ 9223372036854775807)) ∧ (True) ∧ (True) ∧ (True) ∧ (True) ∧ (True) ∧ (((decide ((((List.length t209.2.1) : Nat) : Int) > (64 : Int))) = false → ((decide ((((List.length t209.2.1) : Nat) : Int) > (64 : Int))) = false ∧ (0 = 0 ∧ (List.length (x127 ++ (List.take (Int.toNat t202.1) (List.getD a0 (Int.toNat x129) (([] : List Int), (0 : Int))).1))) = (List.length (x127 ++ (List.take (Int.toNat t202.1) (List.getD a0 (Int.toNat x129) (([] : List Int), (0 : Int))).1)))) ∧ ((decide ((((List.length t209.2.1) : Nat) : Int) > (64 : Int))) = false ∧ ((decide ((((List.length t209.2.1) : Nat) : Int) > (64 : Int))) = false ∧ (0 = 0 ∧ (List.length (x128 ++ t209.1)) = (List.length (x128 ++ t209.1))) ∧ ((decide ((((List.length t209.2.1) : Nat) : Int) > (64 : Int))) = false ∧ ((decide ((((List.length t209.2.1) : Nat) : Int) > (64 : Int))) = false ∧ (True) ∧ ((decide ((((List.length t209.2.1) : Nat) : Int) > (64 : Int))) = false ∧ (True) ∧ ((decide ((((List.length t209.2.1) : Nat) : Int) > (64 : Int))) = false ∧ (ByteArray.size (strOfNums (x128 ++ t209.1)) + ByteArray.size (strOfNums t209.2.1) ≤ 9223372036854775807) ∧ ((decide ((((List.length t209.2.1) : Nat) : Int) > (64 : Int))) = false ∧ (True) ∧ ((decide ((((List.length t209.2.1) : Nat) : Int) > (64 : Int))) = false ∧ (((halterlaw18_PipeOrder.c0 x127 t202 a0 x129 x128 t209) = true → (True ∧ (((True) ∧ (True) ∧ True) ∧ halterlaw18_PipeOrder.l0_Q t1 a0 r .ret ⟨[.any, .any, .v (.one (.sc (.bool false))), .any, .any, .any, .any, .any, .any, .any, .any, .any, .any, .any, .any, .any, .any, .any, .any, .any, .any, .any, .any, .any, .any, .any, .any, .any, .any, .any, .any, .any, .any, .any, .any, .any, .any, .any, .any, .any, .any, .any, .any, .any, .any, .any, .any, .any, .any, .any, .any, .any, .any, .any, .any, .any, .any, .any, .any, .any, .any, .any, .any, .any, .any, .any, .any, .any, .any, .any, .any, .any, .any, .any, .any, .any, .any, .any, .any, .any, .any, .any, .any, .any, .any, .any, .any, .any, .any, .any, .any, .any, .any, .any, .any, .any, .any, .any, .any, .any, .any, .any, .any, .any, .any, .any, .any, .any, .any, .any, .any, .any, .any, .any, .any, .any, .any, .any, .any, .any, .any, .any, .any, .any, .any, .any, .any, .any, .any, .any, .any, .any, .any, .any, .any, .any, .any, .any, .any, .any, .any, .any], [.ex false [.c (.fs (.int .u8) t1.1 false), .c (.sc (.int .i64 t1.2.1)), .c (.sc (.int .i64 (p2 t1)))] 25, .ex false [.c (.fs (.int .u8) t209.2.1 false), .c (.sc (.int .i64 (p2 t209))), .c (.sc (.int .i64 (p3 t209)))] 25, .gro false (.int .u8) (x127 ++ (List.take (Int.toNat t202.1) (List.getD a0 (Int.toNat x129) (([] : List Int), (0 : Int))).1)) 5, .gro false (.int .u8) (x128 ++ t209.1) 5], 0⟩))) ∧ ((halterlaw18_PipeOrder.c0 x127 t202 a0 x129 x128 t209) = false → (True ∧ (True ∧ (True) ∧ (((True) ∧ (True) ∧ True) ∧ TripN cfg (cpath (Tryd.f3.body.getD .skip) [1, 1, 1, 1, 1, 0, 1, 0, 0]) n (halterlaw18_PipeOrder.l0_S t1 a0 t209.2.1 (p2 t209) (p3 t209) (x127 ++ (List.take (Int.toNat t202.1) (List.getD a0 (Int.toNat x129) (([] : List Int), (0 : Int))).1)) (x128 ++ t209.1) (IntKind.wrap .i64 (x129 + (1 : Int)))) (halterlaw18_PipeOrder.l0_Q t1 a0 r)))))))))))))))) ∧ ((decide ((((List.length t209.2.1) : Nat) : Int) > (64 : Int))) = true → ((decide ((((List.length t209.2.1) : Nat) : Int) > (64 : Int))) = true ∧ ((decide ((((List.length t209.2.1) : Nat) : Int) > (64 : Int))) = true ∧ ((decide ((((List.length t209.2.1) : Nat) : Int) > (64 : Int))) = true ∧ ((decide ((((List.length t209.2.1) : Nat) : Int) > (64 : Int))) = true ∧ ((decide ((((List.length t209.2.1) : Nat) : Int) > (64 : Int))) = true ∧ ((decide ((((List.length t209.2.1) : Nat) : Int) > (64 : Int))) = true ∧ ((decide ((((List.length t209.2.1) : Nat) : Int) > (64 : Int))) = true ∧ ((decide ((((List.length t209.2.1) : Nat) : Int) > (64 : Int))) = true ∧ ((decide ((((List.length t209.2.1) : Nat) : Int) > (64 : Int))) = true ∧ (true = true ∧ (True ∧ (((True) ∧ (True) ∧ True) ∧ halterlaw18_PipeOrder.l0_Q t1 a0 r .ret ⟨[.any, .any, .v (.one (.sc (.bool false))), .any, .any, .any, .any, .any, .any, .any, .any, .any, .any, .any, .any, .any, .any, .any, .any, .any, .any, .any, .any, .any, .any, .any, .any, .any, .any, .any, .any, .any, .any, .any, .any, .any, .any, .any, .any, .any, .any, .any, .any, .any, .any, .any, .any, .any, .any, .any, .any, .any, .any, .any, .any, .any, .any, .any, .any, .any, .any, .any, .any, .any, .any, .any, .any, .any, .any, .any, .any, .any, .any, .any, .any, .any, .any, .any, .any, .any, .any, .any, .any, .any, .any, .any, .any, .any, .any, .any, .any, .any, .any, .any, .any, .any, .any, .any, .any, .any, .any, .any, .any, .any, .any, .any, .any, .any, .any, .any, .any, .any, .any, .any, .any, .any, .any, .any, .any, .any, .any, .any, .any, .any, .any, .any, .any, .any, .any, .any, .any, .any, .any, .any, .any, .any, .any, .any, .any, .any, .any, .any], [.ex false [.c (.fs (.int .u8) t1.1 false), .c (.sc (.int .i64 t1.2.1)), .c (.sc (.int .i64 (p2 t1)))] 25, .ex false [.c (.fs (.int .u8) t209.2.1 false), .c (.sc (.int .i64 (p2 t209))), .c (.sc (.int .i64 (p3 t209)))] 25, .gro false (.int .u8) (x127 ++ (List.take (Int.toNat t202.1) (List.getD a0 (Int.toNat x129) (([] : List Int), (0 : Int))).1)) 5, .gro false (.int .u8) (x128 ++ t209.1) 5], 0⟩))))))))))))))) ∧ ((Option.isNone (z4 t209)) = false → (∃ t215 : Int, (Fun cfg 8 [.one (.err (z4 t209))] [] (num.R t215) [] ∧ True) ∧ (True) ∧ (((t215 != (11 : Int)) = true → (True ∧ (((True) ∧ (True) ∧ True) ∧ halterlaw18_PipeOrder.l0_Q t1 a0 r .ret ⟨[.any, .any, .v (.one (.sc (.bool false))), .any, .any, .any, .any, .any, .any, .any, .any, .any, .any, .any, .any, .any, .any, .any, .any, .any, .any, .any, .any, .any, .any, .any, .any, .any, .any, .any, .any, .any, .any, .any, .any, .any, .any, .any, .any, .any, .any, .any, .any, .any, .any, .any, .any, .any, .any, .any, .any, .any, .any, .any, .any, .any, .any, .any, .any, .any, .any, .any, .any, .any, .any, .any, .any, .any, .any, .any, .any, .any, .any, .any, .any, .any, .any, .any, .any, .any, .any, .any, .any, .any, .any, .any, .any, .any, .any, .any, .any, .any, .any, .any, .any, .any, .any, .any, .any, .any, .any, .any, .any, .any, .any, .any, .any, .any, .any, .any, .any, .any, .any, .any, .any, .any, .any, .any, .any, .any, .any, .any, .any, .any, .any, .any, .any, .any, .any, .any, .any, .any, .any, .any, .any, .any, .any, .any, .any, .any, .any, .any], [.ex false [.c (.fs (.int .u8) t1.1 false), .c (.sc (.int .i64 t1.2.1)), .c (.sc (.int .i64 (p2 t1)))] 25, .ex false [.c (.fs (.int .u8) t202.2.1 false), .c (.sc (.int .i64 (p2 t202))), .c (.sc (.int .i64 (p3 t202)))] 25, .gro false (.int .u8) (x127 ++ (List.take (Int.toNat t202.1) (List.getD a0 (Int.toNat x129) (([] : List Int), (0 : Int))).1)) 5, .gro false (.int .u8) x128 5], 0⟩))) ∧ ((t215 != (11 : Int)) = false → (True) ∧ (True) ∧ (True) ∧ (((decide ((((List.length t202.2.1) : Nat) : Int) > (64 : Int))) = false → ((decide ((((List.length t202.2.1) : Nat) : Int) > (64 : Int))) = false ∧ (0 = 0 ∧ (List.length (x127 ++ (List.take (Int.toNat t202.1) (List.getD a0 (Int.toNat x129) (([] : List Int), (0 : Int))).1))) = (List.length (x127 ++ (List.take (Int.toNat t202.1) (List.getD a0 (Int.toNat x129) (([] : List Int), (0 : Int))).1)))) ∧ ((decide ((((List.length t202.2.1) : Nat) : Int) > (64 : Int))) = false ∧ ((decide ((((List.length t202.2.1) : Nat) : Int) > (64 : Int))) = false ∧ (0 = 0 ∧ (List.length x128) = (List.length x128)) ∧ ((decide ((((List.length t202.2.1) : Nat) : Int) > (64 : Int))) = false ∧ ((decide ((((List.length t202.2.1) : Nat) : Int) > (64 : Int))) = false ∧ (True) ∧ ((decide ((((List.length t202.2.1) : Nat) : Int) > (64 : Int))) = false ∧ (True) ∧ ((decide ((((List.length t202.2.1) : Nat) : Int) > (64 : Int))) = false ∧ (ByteArray.size (strOfNums x128) + ByteArray.size (strOfNums t202.2.1) ≤ 9223372036854775807) ∧ ((decide ((((List.length t202.2.1) : Nat) : Int) > (64 : Int))) = false ∧ (True) ∧ ((decide ((((List.length t202.2.1) : Nat) : Int) > (64 : Int))) = false ∧ (((halterlaw18_PipeOrder.c2 x127 t202 a0 x129 x128) = true → (True ∧ (((True) ∧ (True) ∧ True) ∧ halterlaw18_PipeOrder.l0_Q t1 a0 r .ret ⟨[.any, .any, .v (.one (.sc (.bool false))), .any, .any, .any, .any, .any, .any, .any, .any, .any, .any, .any, .any, .any, .any, .any, .any, .any, .any, .any, .any, .any, .any, .any, .any, .any, .any, .any, .any, .any, .any, .any, .any, .any, .any, .any, .any, .any, .any, .any, .any, .any, .any, .any, .any, .any, .any, .any, .any, .any, .any, .any, .any, .any, .any, .any, .any, .any, .any, .any, .any, .any, .any, .any, .any, .any, .any, .any, .any, .any, .any, .any, .any, .any, .any, .any, .any, .any, .any, .any, .any, .any, .any, .any, .any, .any, .any, .any, .any, .any, .any, .any, .any, .any, .any, .any, .any, .any, .any, .any, .any, .any, .any, .any, .any, .any, .any, .any, .any, .any, .any, .any, .any, .any, .any, .any, .any, .any, .any, .any, .any, .any, .any, .any, .any, .any, .any, .any, .any, .any, .any, .any, .any, .any, .any, .any, .any, .any, .any, .any], [.ex false [.c (.fs (.int .u8) t1.1 false), .c (.sc (.int .i64 t1.2.1)), .c (.sc (.int .i64 (p2 t1)))] 25, .ex false [.c (.fs (.int .u8) t202.2.1 false), .c (.sc (.int .i64 (p2 t202))), .c (.sc (.int .i64 (p3 t202)))] 25, .gro false (.int .u8) (x127 ++ (List.take (Int.toNat t202.1) (List.getD a0 (Int.toNat x129) (([] : List Int), (0 : Int))).1)) 5, .gro false (.int .u8) x128 5], 0⟩))) ∧ ((halterlaw18_PipeOrder.c2 x127 t202 a0 x129 x128) = false → (True ∧ (True ∧ (True) ∧ (((True) ∧ (True) ∧ True) ∧ TripN cfg (cpath (Tryd.f3.body.getD .skip) [1, 1, 1, 1, 1, 0, 1, 0, 0]) n (halterlaw18_PipeOrder.l0_S t1 a0 t202.2.1 (p2 t202) (p3 t202) (x127 ++ (List.take (Int.toNat t202.1) (List.getD a0 (Int.toNat x129) (([] : List Int), (0 : Int))).1)) x128 (IntKind.wrap .i64 (x129 + (1 : Int)))) (halterlaw18_PipeOrder.l0_Q t1 a0 r)))))))))))))))) ∧ ((decide ((((List.length t202.2.1) : Nat) : Int) > (64 : Int))) = true → ((decide ((((List.length t202.2.1) : Nat) : Int) > (64 : Int))) = true ∧ ((decide ((((List.length t202.2.1) : Nat) : Int) > (64 : Int))) = true ∧ ((decide ((((List.length t202.2.1) : Nat) : Int) > (64 : Int))) = true ∧ ((decide ((((List.length t202.2.1) : Nat) : Int) > (64 : Int))) = true ∧ ((decide ((((List.length t202.2.1) : Nat) : Int) > (64 : Int))) = true ∧ ((decide ((((List.length t202.2.1) : Nat) : Int) > (64 : Int))) = true ∧ ((decide ((((List.length t202.2.1) : Nat) : Int) > (64 : Int))) = true ∧ ((decide ((((List.length t202.2.1) : Nat) : Int) > (64 : Int))) = true ∧ ((decide ((((List.length t202.2.1) : Nat) : Int) > (64 : Int))) = true ∧ (true = true ∧ (True ∧ (((True) ∧ (True) ∧ True) ∧ halterlaw18_PipeOrder.l0_Q t1 a0 r .ret ⟨[.any, .any, .v (.one (.sc (.bool false))), .any, .any, .any, .any, .any, .any, .any, .any, .any, .any, .any, .any, .any, .any, .any, .any, .any, .any, .any, .any, .any, .any, .any, .any, .any, .any, .any, .any, .any, .any, .any, .any, .any, .any, .any, .any, .any, .any, .any, .any, .any, .any, .any, .any, .any, .any, .any, .any, .any, .any, .any, .any, .any, .any, .any, .any, .any, .any, .any, .any, .any, .any, .any, .any, .any, .any, .any, .any, .any, .any, .any, .any, .any, .any, .any, .any, .any, .any, .any, .any, .any, .any, .any, .any, .any, .any, .any, .any, .any, .any, .any, .any, .any, .any, .any, .any, .any, .any, .any, .any, .any, .any, .any, .any, .any, .any, .any, .any, .any, .any, .any, .any, .any, .any, .any, .any, .any, .any, .any, .any, .any, .any, .any, .any, .any, .any, .any, .any, .any, .any, .any, .any, .any, .any, .any, .any, .any, .any, .any], [.ex false [.c (.fs (.int .u8) t1.1 false), .c (.sc (.int .i64 t1.2.1)), .c (.sc (.int .i64 (p2 t1)))] 25, .ex false [.c (.fs (.int .u8) t202.2.1 false), .c (.sc (.int .i64 (p2 t202))), .c (.sc (.int .i64 (p3 t202)))] 25, .gro false (.int .u8) (x127 ++ (List.take (Int.toNat t202.1) (List.getD a0 (Int.toNat x129) (([] : List Int), (0 : Int))).1)) 5, .gro false (.int .u8) x128 5], 0⟩))))))))))))))))))))))))))))) ∧ ((decide (t202.1 < (((List.length (List.getD a0 (Int.toNat x129) (([] : List Int), (0 : Int))).1) : Nat) : Int))) = false → ((decide (t202.1 < (((List.length (List.getD a0 (Int.toNat x129) (([] : List Int), (0 : Int))).1) : Nat) : Int))) = false ∧ ((decide (t202.1 < (((List.length (List.getD a0 (Int.toNat x129) (([] : List Int), (0 : Int))).1) : Nat) : Int))) = false ∧ ((decide (t202.1 < (((List.length (List.getD a0 (Int.toNat x129) (([] : List Int), (0 : Int))).1) : Nat) : Int))) = false ∧ ((decide (t202.1 > (((List.length (List.getD a0 (Int.toNat x129) (([] : List Int), (0 : Int))).1) : Nat) : Int))) = false ∧ ((decide (t202.1 < (((List.length (List.getD a0 (Int.toNat x129) (([] : List Int), (0 : Int))).1) : Nat) : Int))) = false ∧ ((decide (t202.1 > (((List.length (List.getD a0 (Int.toNat x129) (([] : List Int), (0 : Int))).1) : Nat) : Int))) = false ∧ (false = false ∧ (0 ≤ x129 ∧ x129 < (((List.length a0) : Nat) : Int)) ∧ (True) ∧ (0 ≤ t202.1 ∧ t202.1 ≤ (((List.length (List.getD a0 (Int.toNat x129) (([] : List Int), (0 : Int))).1) : Nat) : Int)) ∧ (True ∧ 0 = 0 ∧ (List.length x127) = (List.length x127) ∧ (((List.length x127) + (List.length (List.take (Int.toNat t202.1) (List.getD a0 (Int.toNat x129) (([] : List Int), (0 : Int))).1))) * 1 ≤ 140737488355328 ∧ (List.length x127) + (List.length (List.take (Int.toNat t202.1) (List.getD a0 (Int.toNat x129) (([] : List Int), (0 : Int))).1)) ≤ 9223372036854775807)) ∧ (True) ∧ (True) ∧ (∃ t224 : TY0, (0 ≤ x129 ∧ x129 < (((List.length a0) : Nat) : Int)) ∧ (True) ∧ (True) ∧ (True) ∧ ((100 : Int) ≠ 0) ∧ (True) ∧ (Fun cfg 9 [.agg [.c (.fs (.int .u8) t202.2.1 false), .c (.sc (.int .i64 (p2 t202))), .c (.sc (.int .i64 (p3 t202)))], .one (.sc (.int .i64 (IntKind.wrap .i64 ((Int.tmod (IntKind.wrap .u64 ((List.getD a0 (Int.toNat x129) (([] : List Int), (0 : Int))).2)) (100 : Int))))))] [] (pipe_Read.R t224) [] ∧ True) ∧ (True) ∧ (True) ∧ (((Option.isNone (z4 t224)) = true → (True ∧ 0 = 0 ∧ (List.length x128) = (List.length x128) ∧ (((List.length x128) + (List.length t224.1)) * 1 ≤ 140737488355328 ∧ (List.length x128) + (List.length t224.1) ≤ 9223372036854775807)) ∧ (True) ∧ (True) ∧ (True) ∧ (True) ∧ (True) ∧ (((decide ((((List.length t224.2.1) : Nat) : Int) > (64 : Int))) = false → ((decide ((((List.length t224.2.1) : Nat) : Int) > (64 : Int))) = false ∧ (0 = 0 ∧ (List.length (x127 ++ (List.take (Int.toNat t202.1) (List.getD a0 (Int.toNat x129) (([] : List Int), (0 : Int))).1))) = (List.length (x127 ++ (List.take (Int.toNat t202.1) (List.getD a0 (Int.toNat x129) (([] : List Int), (0 : Int))).1)))) ∧ ((decide ((((List.length t224.2.1) : Nat) : Int) > (64 : Int))) = false ∧ ((decide ((((List.length t224.2.1) : Nat) : Int) > (64 : Int))) = false ∧ (0 = 0 ∧ (List.length (x128 ++ t224.1)) = (List.length (x128 ++ t224.1))) ∧ ((decide ((((List.length t224.2.1) : Nat) : Int) > (64 : Int))) = false ∧ ((decide ((((List.length t224.2.1) : Nat) : Int) > (64 : Int))) = false ∧ (True) ∧ ((decide ((((List.length t224.2.1) : Nat) : Int) > (64 : Int))) = false ∧ (True) ∧ ((decide ((((List.length t224.2.1) : Nat) : Int) > (64 : Int))) = false ∧ (ByteArray.size (strOfNums (x128 ++ t224.1)) + ByteArray.size (strOfNums t224.2.1) ≤ 9223372036854775807) ∧ ((decide ((((List.length t224.2.1) : Nat) : Int) > (64 : Int))) = false ∧ (True) ∧ ((decide ((((List.length t224.2.1) : Nat) : Int) > (64 : Int))) = false ∧ (((halterlaw18_PipeOrder.c1 x127 t202 a0 x129 x128 t224) = true → (True ∧ (((True) ∧ (True) ∧ True) ∧ halterlaw18_PipeOrder.l0_Q t1 a0 r .ret ⟨[.any, .any, .v (.one (.sc (.bool false))), .any, .any, .any, .any, .any, .any, .any, .any, .any, .any, .any, .any, .any, .any, .any, .any, .any, .any, .any, .any, .any, .any, .any, .any, .any, .any, .any, .any, .any, .any, .any, .any, .any, .any, .any, .any, .any, .any, .any, .any, .any, .any, .any, .any, .any, .any, .any, .any, .any, .any, .any, .any, .any, .any, .any, .any, .any, .any, .any, .any, .any, .any, .any, .any, .any, .any, .any, .any, .any, .any, .any, .any, .any, .any, .any, .any, .any, .any, .any, .any, .any, .any, .any, .any, .any, .any, .any, .any, .any, .any, .any, .any, .any, .any, .any, .any, .any, .any, .any, .any, .any, .any, .any, .any, .any, .any, .any, .any, .any, .any, .any, .any, .any, .any, .any, .any, .any, .any, .any, .any, .any, .any, .any, .any, .any, .any, .any, .any, .any, .any, .any, .any, .any, .any, .any, .any, .any, .any, .any], [.ex false [.c (.fs (.int .u8) t1.1 false), .c (.sc (.int .i64 t1.2.1)), .c (.sc (.int .i64 (p2 t1)))] 25, .ex false [.c (.fs (.int .u8) t224.2.1 false), .c (.sc (.int .i64 (p2 t224))), .c (.sc (.int .i64 (p3 t224)))] 25, .gro false (.int .u8) (x127 ++ (List.take (Int.toNat t202.1) (List.getD a0 (Int.toNat x129) (([] : List Int), (0 : Int))).1)) 5, .gro false (.int .u8) (x128 ++ t224.1) 5], 0⟩))) ∧ ((halterlaw18_PipeOrder.c1 x127 t202 a0 x129 x128 t224) = false → (True ∧ (True ∧ (True) ∧ (((True) ∧ (True) ∧ True) ∧ TripN cfg (cpath (Tryd.f3.body.getD .skip) [1, 1, 1, 1, 1, 0, 1, 0, 0]) n (halterlaw18_PipeOrder.l0_S t1 a0 t224.2.1 (p2 t224) (p3 t224) (x127 ++ (List.take (Int.toNat t202.1) (List.getD a0 (Int.toNat x129) (([] : List Int), (0 : Int))).1)) (x128 ++ t224.1) (IntKind.wrap .i64 (x129 + (1 : Int)))) (halterlaw18_PipeOrder.l0_Q t1 a0 r)))))))))))))))) ∧ ((decide ((((List.length t224.2.1) : Nat) : Int) > (64 : Int))) = true → ((decide ((((List.length t224.2.1) : Nat) : Int) > (64 : Int))) = true ∧ ((decide ((((List.length t224.2.1) : Nat) : Int) > (64 : Int))) = true ∧ ((decide ((((List.length t224.2.1) : Nat) : Int) > (64 : Int))) = true ∧ ((decide ((((List.length t224.2.1) : Nat) : Int) > (64 : Int))) = true ∧ ((decide ((((List.length t224.2.1) : Nat) : Int) > (64 : Int))) = true ∧ ((decide ((((List.length t224.2.1) : Nat) : Int) > (64 : Int))) = true ∧ ((decide ((((List.length t224.2.1) : Nat) : Int) > (64 : Int))) = true ∧ ((decide ((((List.length t224.2.1) : Nat) : Int) > (64 : Int))) = true ∧ ((decide ((((List.length t224.2.1) : Nat) : Int) > (64 : Int))) = true ∧ (true = true ∧ (True ∧ (((True) ∧ (True) ∧ True) ∧ halterlaw18_PipeOrder.l0_Q t1 a0 r .ret ⟨[.any, .any, .v (.one (.sc (.bool false))), .any, .any, .any, .any, .any, .any, .any, .any, .any, .any, .any, .any, .any, .any, .any, .any, .any, .any, .any, .any, .any, .any, .any, .any, .any, .any, .any, .any, .any, .any, .any, .any, .any, .any, .any, .any, .any, .any, .any, .any, .any, .any, .any, .any, .any, .any, .any, .any, .any, .any, .any, .any, .any, .any, .any, .any, .any, .any, .any, .any, .any, .any, .any, .any, .any, .any, .any, .any, .any, .any, .any, .any, .any, .any, .any, .any, .any, .any, .any, .any, .any, .any, .any, .any, .any, .any, .any, .any, .any, .any, .any, .any, .any, .any, .any, .any, .any, .any, .any, .any, .any, .any, .any, .any, .any, .any, .any, .any, .any, .any, .any, .any, .any, .any, .any, .any, .any, .any, .any, .any, .any, .any, .any, .any, .any, .any, .any, .any, .any, .any, .any, .any, .any, .any, .any, .any, .any, .any, .any], [.ex false [.c (.fs (.int .u8) t1.1 false), .c (.sc (.int .i64 t1.2.1)), .c (.sc (.int .i64 (p2 t1)))] 25, .ex false [.c (.fs (.int .u8) t224.2.1 false), .c (.sc (.int .i64 (p2 t224))), .c (.sc (.int .i64 (p3 t224)))] 25, .gro false (.int .u8) (x127 ++ (List.take (Int.toNat t202.1) (List.getD a0 (Int.toNat x129) (([] : List Int), (0 : Int))).1)) 5, .gro false (.int .u8) (x128 ++ t224.1) 5], 0⟩))))))))))))))) ∧ ((Option.isNone (z4 t224)) = false → (∃ t230 : Int, (Fun cfg 8 [.one (.err (z4 t224))] [] (num.R t230) [] ∧ True) ∧ (True) ∧ (((t230 != (11 : Int)) = true → (True ∧ (((True) ∧ (True) ∧ True) ∧ halterlaw18_PipeOrder.l0_Q t1 a0 r .ret ⟨[.any, .any, .v (.one (.sc (.bool false))), .any, .any, .any, .any, .any, .any, .any, .any, .any, .any, .any, .any, .any, .any, .any, .any, .any, .any, .any, .any, .any, .any, .any, .any, .any, .any, .any, .any, .any, .any, .any, .any, .any, .any, .any, .any, .any, .any, .any, .any, .any, .any, .any, .any, .any, .any, .any, .any, .any, .any, .any, .any, .any, .any, .any, .any, .any, .any, .any, .any, .any, .any, .any, .any, .any, .any, .any, .any, .any, .any, .any, .any, .any, .any, .any, .any, .any, .any, .any, .any, .any, .any, .any, .any, .any, .any, .any, .any, .any, .any, .any, .any, .any, .any, .any, .any, .any, .any, .any, .any, .any, .any, .any, .any, .any, .any, .any, .any, .any, .any, .any, .any, .any, .any, .any, .any, .any, .any, .any, .any, .any, .any, .any, .any, .any, .any, .any, .any, .any, .any, .any, .any, .any, .any, .any, .any, .any, .any, .any], [.ex false [.c (.fs (.int .u8) t1.1 false), .c (.sc (.int .i64 t1.2.1)), .c (.sc (.int .i64 (p2 t1)))] 25, .ex false [.c (.fs (.int .u8) t202.2.1 false), .c (.sc (.int .i64 (p2 t202))), .c (.sc (.int .i64 (p3 t202)))] 25, .gro false (.int .u8) (x127 ++ (List.take (Int.toNat t202.1) (List.getD a0 (Int.toNat x129) (([] : List Int), (0 : Int))).1)) 5, .gro false (.int .u8) x128 5], 0⟩))) ∧ ((t230 != (11 : Int)) = false → (True) ∧ (True) ∧ (True) ∧ (((decide ((((List.length t202.2.1) : Nat) : Int) > (64 : Int))) = false → ((decide ((((List.length t202.2.1) : Nat) : Int) > (64 : Int))) = false ∧ (0 = 0 ∧ (List.length (x127 ++ (List.take (Int.toNat t202.1) (List.getD a0 (Int.toNat x129) (([] : List Int), (0 : Int))).1))) = (List.length (x127 ++ (List.take (Int.toNat t202.1) (List.getD a0 (Int.toNat x129) (([] : List Int), (0 : Int))).1)))) ∧ ((decide ((((List.length t202.2.1) : Nat) : Int) > (64 : Int))) = false ∧ ((decide ((((List.length t202.2.1) : Nat) : Int) > (64 : Int))) = false ∧ (0 = 0 ∧ (List.length x128) = (List.length x128)) ∧ ((decide ((((List.length t202.2.1) : Nat) : Int) > (64 : Int))) = false ∧ ((decide ((((List.length t202.2.1) : Nat) : Int) > (64 : Int))) = false ∧ (True) ∧ ((decide ((((List.length t202.2.1) : Nat) : Int) > (64 : Int))) = false ∧ (True) ∧ ((decide ((((List.length t202.2.1) : Nat) : Int) > (64 : Int))) = false ∧ (ByteArray.size (strOfNums x128) + ByteArray.size (strOfNums t202.2.1) ≤ 9223372036854775807) ∧ ((decide ((((List.length t202.2.1) : Nat) : Int) > (64 : Int))) = false ∧ (True) ∧ ((decide ((((List.length t202.2.1) : Nat) : Int) > (64 : Int))) = false ∧ (((halterlaw18_PipeOrder.c2 x127 t202 a0 x129 x128) = true → (True ∧ (((True) ∧ (True) ∧ True) ∧ halterlaw18_PipeOrder.l0_Q t1 a0 r .ret ⟨[.any, .any, .v (.one (.sc (.bool false))), .any, .any, .any, .any, .any, .any, .any, .any, .any, .any, .any, .any, .any, .any, .any, .any, .any, .any, .any, .any, .any, .any, .any, .any, .any, .any, .any, .any, .any, .any, .any, .any, .any, .any, .any, .any, .any, .any, .any, .any, .any, .any, .any, .any, .any, .any, .any, .any, .any, .any, .any, .any, .any, .any, .any, .any, .any, .any, .any, .any, .any, .any, .any, .any, .any, .any, .any, .any, .any, .any, .any, .any, .any, .any, .any, .any, .any, .any, .any, .any, .any, .any, .any, .any, .any, .any, .any, .any, .any, .any, .any, .any, .any, .any, .any, .any, .any, .any, .any, .any, .any, .any, .any, .any, .any, .any, .any, .any, .any, .any, .any, .any, .any, .any, .any, .any, .any, .any, .any, .any, .any, .any, .any, .any, .any, .any, .any, .any, .any, .any, .any, .any, .any, .any, .any, .any, .any, .any, .any], [.ex false [.c (.fs (.int .u8) t1.1 false), .c (.sc (.int .i64 t1.2.1)), .c (.sc (.int .i64 (p2 t1)))] 25, .ex false [.c (.fs (.int .u8) t202.2.1 false), .c (.sc (.int .i64 (p2 t202))), .c (.sc (.int .i64 (p3 t202)))] 25, .gro false (.int .u8) (x127 ++ (List.take (Int.toNat t202.1) (List.getD a0 (Int.toNat x129) (([] : List Int), (0 : Int))).1)) 5, .gro false (.int .u8) x128 5], 0⟩))) ∧ ((halterlaw18_PipeOrder.c2 x127 t202 a0 x129 x128) = false → (True ∧ (True ∧ (True) ∧ (((True) ∧ (True) ∧ True) ∧ TripN cfg (cpath (Tryd.f3.body.getD .skip) [1, 1, 1, 1, 1, 0, 1, 0, 0]) n (halterlaw18_PipeOrder.l0_S t1 a0 t202.2.1 (p2 t202) (p3 t202) (x127 ++ (List.take (Int.toNat t202.1) (List.getD a0 (Int.toNat x129) (([] : List Int), (0 : Int))).1)) x128 (IntKind.wrap .i64 (x129 + (1 : Int)))) (halterlaw18_PipeOrder.l0_Q t1 a0 r)))))))))))))))) ∧ ((decide ((((List.length t202.2.1) : Nat) : Int) > (64 : Int))) = true → ((decide ((((List.length t202.2.1) : Nat) : Int) > (64 : Int))) = true ∧ ((decide ((((List.length t202.2.1) : Nat) : Int) > (64 : Int))) = true ∧ ((decide ((((List.length t202.2.1) : Nat) : Int) > (64 : Int))) = true ∧ ((decide ((((List.length t202.2.1) : Nat) : Int) > (64 : Int))) = true ∧ ((decide ((((List.length t202.2.1) : Nat) : Int) > (64 : Int))) = true ∧ ((decide ((((List.length t202.2.1) : Nat) : Int) > (64 : Int))) = true ∧ ((decide ((((List.length t202.2.1) : Nat) : Int) > (64 : Int))) = true ∧ ((decide ((((List.length t202.2.1) : Nat) : Int) > (64 : Int))) = true ∧ ((decide ((((List.length t202.2.1) : Nat) : Int) > (64 : Int))) = true ∧ (true = true ∧ (True ∧ (((True) ∧ (True) ∧ True) ∧ halterlaw18_PipeOrder.l0_Q t1 a0 r .ret ⟨[.any, .any, .v (.one (.sc (.bool false))), .any, .any, .any, .any, .any, .any, .any, .any, .any, .any, .any, .any, .any, .any, .any, .any, .any, .any, .any, .any, .any, .any, .any, .any, .any, .any, .any, .any, .any, .any, .any, .any, .any, .any, .any, .any, .any, .any, .any, .any, .any, .any, .any, .any, .any, .any, .any, .any, .any, .any, .any, .any, .any, .any, .any, .any, .any, .any, .any, .any, .any, .any, .any, .any, .any, .any, .any, .any, .any, .any, .any, .any, .any, .any, .any, .any, .any, .any, .any, .any, .any, .any, .any, .any, .any, .any, .any, .any, .any, .any, .any, .any, .any, .any, .any, .any, .any, .any, .any, .any, .any, .any, .any, .any, .any, .any, .any, .any, .any, .any, .any, .any, .any, .any, .any, .any, .any, .any, .any, .any, .any, .any, .any, .any, .any, .any, .any, .any, .any, .any, .any, .any, .any, .any, .any, .any, .any, .any, .any], [.ex false [.c (.fs (.int .u8) t1.1 false), .c (.sc (.int .i64 t1.2.1)), .c (.sc (.int .i64 (p2 t1)))] 25, .ex false [.c (.fs (.int .u8) t202.2.1 false), .c (.sc (.int .i64 (p2 t202))), .c (.sc (.int .i64 (p3 t202)))] 25, .gro false (.int .u8) (x127 ++ (List.take (Int.toNat t202.1) (List.getD a0 (Int.toNat x129) (([] : List Int), (0 : Int))).1)) 5, .gro false (.int .u8) x128 5], 0⟩)))))))))))))))))))))))))))))))))))))) ∧ ((decide (t202.1 > (((List.length (List.getD a0 (Int.toNat x129) (([] : List Int), (0 : Int))).1) : Nat) : Int))) = true → ((decide (t202.1 > (((List.length (List.getD a0 (Int.toNat x129) (([] : List Int), (0 : Int))).1) : Nat) : Int))) = true ∧ ((decide (t202.1 > (((List.length (List.getD a0 (Int.toNat x129) (([] : List Int), (0 : Int))).1) : Nat) : Int))) = true ∧ ((decide (t202.1 > (((List.length (List.getD a0 (Int.toNat x129) (([] : List Int), (0 : Int))).1) : Nat) : Int))) = true ∧ ((decide (t202.1 > (((List.length (List.getD a0 (Int.toNat x129) (([] : List Int), (0 : Int))).1) : Nat) : Int))) = true ∧ ((decide (t202.1 > (((List.length (List.getD a0 (Int.toNat x129) (([] : List Int), (0 : Int))).1) : Nat) : Int))) = true ∧ ((decide (t202.1 > (((List.length (List.getD a0 (Int.toNat x129) (([] : List Int), (0 : Int))).1) : Nat) : Int))) = true ∧ ((decide (t202.1 > (((List.length (List.getD a0 (Int.toNat x129) (([] : List Int), (0 : Int))).1) : Nat) : Int))) = true ∧ ((decide (t202.1 > (((List.length (List.getD a0 (Int.toNat x129) (([] : List Int), (0 : Int))).1) : Nat) : Int))) = true ∧ ((decide (t202.1 > (((List.length (List.getD a0 (Int.toNat x129) (([] : List Int), (0 : Int))).1) : Nat) : Int))) = true ∧ ((decide (t202.1 > (((List.length (List.getD a0 (Int.toNat x129) (([] : List Int), (0 : Int))).1) : Nat) : Int))) = true ∧ (true = true ∧ (True ∧ (((True) ∧ (True) ∧ True) ∧ halterlaw18_PipeOrder.l0_Q t1 a0 r .ret ⟨[.any, .any, .v (.one (.sc (.bool false))), .any, .any, .any, .any, .any, .any, .any, .any, .any, .any, .any, .any, .any, .any, .any, .any, .any, .any, .any, .any, .any, .any, .any, .any, .any, .any, .any, .any, .any, .any, .any, .any, .any, .any, .any, .any, .any, .any, .any, .any, .any, .any, .any, .any, .any, .any, .any, .any, .any, .any, .any, .any, .any, .any, .any, .any, .any, .any, .any, .any, .any, .any, .any, .any, .any, .any, .any, .any, .any, .any, .any, .any, .any, .any, .any, .any, .any, .any, .any, .any, .any, .any, .any, .any, .any, .any, .any, .any, .any, .any, .any, .any, .any, .any, .any, .any, .any, .any, .any, .any, .any, .any, .any, .any, .any, .any, .any, .any, .any, .any, .any, .any, .any, .any, .any, .any, .any, .any, .any, .any, .any, .any, .any, .any, .any, .any, .any, .any, .any, .any, .any, .any, .any, .any, .any, .any, .any, .any, .any], [.ex false [.c (.fs (.int .u8) t1.1 false), .c (.sc (.int .i64 t1.2.1)), .c (.sc (.int .i64 (p2 t1)))] 25, .ex false [.c (.fs (.int .u8) x124 false), .c (.sc (.int .i64 x125)), .c (.sc (.int .i64 x126))] 25, .gro false (.int .u8) x127 5, .gro false (.int .u8) x128 5], 0⟩)))))))))))))))))))))))) ∧ ((decide (t202.1 < (0 : Int))) = true → ((decide (t202.1 < (0 : Int))) = true ∧ ((decide (t202.1 < (0 : Int))) = true ∧ ((decide (t202.1 < (0 : Int))) = true ∧ ((decide (t202.1 < (0 : Int))) = true ∧ ((decide (t202.1 < (0 : Int))) = true ∧ ((decide (t202.1 < (0 : Int))) = true ∧ ((decide (t202.1 < (0 : Int))) = true ∧ ((decide (t202.1 < (0 : Int))) = true ∧ (true = true ∧ (true = true ∧ (true = true ∧ (true = true ∧ (true = true ∧ (true = true ∧ (true = true ∧ (true = true ∧ (true = true ∧ (true = true ∧ (true = true ∧ (true = true ∧ (True ∧ (((True) ∧ (True) ∧ True) ∧ halterlaw18_PipeOrder.l0_Q t1 a0 r .ret ⟨[.any, .any, .v (.one (.sc (.bool false))), .any, .any, .any, .any, .any, .any, .any, .any, .any, .any, .any, .any, .any, .any, .any, .any, .any, .any, .any, .any, .any, .any, .any, .any, .any, .any, .any, .any, .any, .any, .any, .any, .any, .any, .any, .any, .any, .any, .any, .any, .any, .any, .any, .any, .any, .any, .any, .any, .any, .any, .any, .any, .any, .any, .any, .any, .any, .any, .any, .any, .any, .any, .any, .any, .any, .any, .any, .any, .any, .any, .any, .any, .any, .any, .any, .any, .any, .any, .any, .any, .any, .any, .any, .any, .any, .any, .any, .any, .any, .any, .any, .any, .any, .any, .any, .any, .any, .any, .any, .any, .any, .any, .any, .any, .any, .any, .any, .any, .any, .any, .any, .any, .any, .any, .any, .any, .any, .any, .any, .any, .any, .any, .any, .any, .any, .any, .any, .any, .any, .any, .any, .any, .any, .any, .any, .any, .any, .any, .any], [.ex false [.c (.fs (.int .u8) t1.1 false), .c (.sc (.int .i64 t1.2.1)), .c (.sc (.int .i64 (p2 t1)))] 25, .ex false [.c (.fs (.int .u8) x124 false), .c (.sc (.int .i64 x125)), .c (.sc (.int .i64 x126))] 25, .gro false (.int .u8) x127 5, .gro false (.int .u8) x128 5], 0⟩))))))))))))))))))))))))) ∧ ((Option.isNone (z4 t202)) = false → (∃ t240 : Int, (Fun cfg 8 [.one (.err (z4 t202))] [] (num.R t240) [] ∧ True) ∧ (True) ∧ (((t240 != (11 : Int)) = true → (True ∧ (((True) ∧ (True) ∧ True) ∧ halterlaw18_PipeOrder.l0_Q t1 a0 r .ret ⟨[.any, .any, .v (.one (.sc (.bool false))), .any, .any, .any, .any, .any, .any, .any, .any, .any, .any, .any, .any, .any, .any, .any, .any, .any, .any, .any, .any, .any, .any, .any, .any, .any, .any, .any, .any, .any, .any, .any, .any, .any, .any, .any, .any, .any, .any, .any, .any, .any, .any, .any, .any, .any, .any, .any, .any, .any, .any, .any, .any, .any, .any, .any, .any, .any, .any, .any, .any, .any, .any, .any, .any, .any, .any, .any, .any, .any, .any, .any, .any, .any, .any, .any, .any, .any, .any, .any, .any, .any, .any, .any, .any, .any, .any, .any, .any, .any, .any, .any, .any, .any, .any, .any, .any, .any, .any, .any, .any, .any, .any, .any, .any, .any, .any, .any, .any, .any, .any, .any, .any, .any, .any, .any, .any, .any, .any, .any, .any, .any, .any, .any, .any, .any, .any, .any, .any, .any, .any, .any, .any, .any, .any, .any, .any, .any, .any, .any], [.ex false [.c (.fs (.int .u8) t1.1 false), .c (.sc (.int .i64 t1.2.1)), .c (.sc (.int .i64 (p2 t1)))] 25, .ex false [.c (.fs (.int .u8) x124 false), .c (.sc (.int .i64 x125)), .c (.sc (.int .i64 x126))] 25, .gro false (.int .u8) x127 5, .gro false (.int .u8) x128 5], 0⟩))) ∧ ((t240 != (11 : Int)) = false → (∃ t243 : TY0, (0 ≤ x129 ∧ x129 < (((List.length a0) : Nat) : Int)) ∧ (True) ∧ (True) ∧ (True) ∧ ((100 : Int) ≠ 0) ∧ (True) ∧ (Fun cfg 9 [.agg [.c (.fs (.int .u8) x124 false), .c (.sc (.int .i64 x125)), .c (.sc (.int .i64 x126))], .one (.sc (.int .i64 (IntKind.wrap .i64 ((Int.tmod (IntKind.wrap .u64 ((List.getD a0 (Int.toNat x129) (([] : List Int), (0 : Int))).2)) (100 : Int))))))] [] (pipe_Read.R t243) [] ∧ True) ∧ (True) ∧ (True) ∧ (((Option.isNone (z4 t243)) = true → (True ∧ 0 = 0 ∧ (List.length x128) = (List.length x128) ∧ (((List.length x128) + (List.length t243.1)) * 1 ≤ 140737488355328 ∧ (List.length x128) + (List.length t243.1) ≤ 9223372036854775807)) ∧ (True) ∧ (True) ∧ (True) ∧ (True) ∧ (True) ∧ (((decide ((((List.length t243.2.1) : Nat) : Int) > (64 : Int))) = false → ((decide ((((List.length t243.2.1) : Nat) : Int) > (64 : Int))) = false ∧ (0 = 0 ∧ (List.length x127) = (List.length x127)) ∧ ((decide ((((List.length t243.2.1) : Nat) : Int) > (64 : Int))) = false ∧ ((decide ((((List.length t243.2.1) : Nat) : Int) > (64 : Int))) = false ∧ (0 = 0 ∧ (List.length (x128 ++ t243.1)) = (List.length (x128 ++ t243.1))) ∧ ((decide ((((List.length t243.2.1) : Nat) : Int) > (64 : Int))) = false ∧ ((decide ((((List.length t243.2.1) : Nat) : Int) > (64 : Int))) = false ∧ (True) ∧ ((decide ((((List.length t243.2.1) : Nat) : Int) > (64 : Int))) = false ∧ (True) ∧ ((decide ((((List.length t243.2.1) : Nat) : Int) > (64 : Int))) = false ∧ (ByteArray.size (strOfNums (x128 ++ t243.1)) + ByteArray.size (strOfNums t243.2.1) ≤ 9223372036854775807) ∧ ((decide ((((List.length t243.2.1) : Nat) : Int) > (64 : Int))) = false ∧ (True) ∧ ((decide ((((List.length t243.2.1) : Nat) : Int) > (64 : Int))) = false ∧ (((!((strOfNums x127).toList == ((strOfNums (x128 ++ t243.1)) ++ (strOfNums t243.2.1)).toList)) = true → (True ∧ (((True) ∧ (True) ∧ True) ∧ halterlaw18_PipeOrder.l0_Q t1 a0 r .ret ⟨[.any, .any, .v (.one (.sc (.bool false))), .any, .any, .any, .any, .any, .any, .any, .any, .any, .any, .any, .any, .any, .any, .any, .any, .any, .any, .any, .any, .any, .any, .any, .any, .any, .any, .any, .any, .any, .any, .any, .any, .any, .any, .any, .any, .any, .any, .any, .any, .any, .any, .any, .any, .any, .any, .any, .any, .any, .any, .any, .any, .any, .any, .any, .any, .any, .any, .any, .any, .any, .any, .any, .any, .any, .any, .any, .any, .any, .any, .any, .any, .any, .any, .any, .any, .any, .any, .any, .any, .any, .any, .any, .any, .any, .any, .any, .any, .any, .any, .any, .any, .any, .any, .any, .any, .any, .any, .any, .any, .any, .any, .any, .any, .any, .any, .any, .any, .any, .any, .any, .any, .any, .any, .any, .any, .any, .any, .any, .any, .any, .any, .any, .any, .any, .any, .any, .any, .any, .any, .any, .any, .any, .any, .any, .any, .any, .any, .any], [.ex false [.c (.fs (.int .u8) t1.1 false), .c (.sc (.int .i64 t1.2.1)), .c (.sc (.int .i64 (p2 t1)))] 25, .ex false [.c (.fs (.int .u8) t243.2.1 false), .c (.sc (.int .i64 (p2 t243))), .c (.sc (.int .i64 (p3 t243)))] 25, .gro false (.int .u8) x127 5, .gro false (.int .u8) (x128 ++ t243.1) 5], 0⟩))) ∧ ((!((strOfNums x127).toList == ((strOfNums (x128 ++ t243.1)) ++ (strOfNums t243.2.1)).toList)) = false → (True ∧ (True ∧ (True) ∧ (((True) ∧ (True) ∧ True) ∧ TripN cfg (cpath (Tryd.f3.body.getD .skip) [1, 1, 1, 1, 1, 0, 1, 0, 0]) n (halterlaw18_PipeOrder.l0_S t1 a0 t243.2.1 (p2 t243) (p3 t243) x127 (x128 ++ t243.1) (IntKind.wrap .i64 (x129 + (1 : Int)))) (halterlaw18_PipeOrder.l0_Q t1 a0 r)))))))))))))))) ∧ ((decide ((((List.length t243.2.1) : Nat) : Int) > (64 : Int))) = true → ((decide ((((List.length t243.2.1) : Nat) : Int) > (64 : Int))) = true ∧ ((decide ((((List.length t243.2.1) : Nat) : Int) > (64 : Int))) = true ∧ ((decide ((((List.length t243.2.1) : Nat) : Int) > (64 : Int))) = true ∧ ((decide ((((List.length t243.2.1) : Nat) : Int) > (64 : Int))) = true ∧ ((decide ((((List.length t243.2.1) : Nat) : Int) > (64 : Int))) = true ∧ ((decide ((((List.length t243.2.1) : Nat) : Int) > (64 : Int))) = true ∧ ((decide ((((List.length t243.2.1) : Nat) : Int) > (64 : Int))) = true ∧ ((decide ((((List.length t243.2.1) : Nat) : Int) > (64 : Int))) = true ∧ ((decide ((((List.length t243.2.1) : Nat) : Int) > (64 : Int))) = true ∧ (true = true ∧ (True ∧ (((True) ∧ (True) ∧ True) ∧ halterlaw18_PipeOrder.l0_Q t1 a0 r .ret ⟨[.any, .any, .v (.one (.sc (.bool false))), .any, .any, .any, .any, .any, .any, .any, .any, .any, .any, .any, .any, .any, .any, .any, .any, .any, .any, .any, .any, .any, .any, .any, .any, .any, .any, .any, .any, .any, .any, .any, .any, .any, .any, .any, .any, .any, .any, .any, .any, .any, .any, .any, .any, .any, .any, .any, .any, .any, .any, .any, .any, .any, .any, .any, .any, .any, .any, .any, .any, .any, .any, .any, .any, .any, .any, .any, .any, .any, .any, .any, .any, .any, .any, .any, .any, .any, .any, .any, .any, .any, .any, .any, .any, .any, .any, .any, .any, .any, .any, .any, .any, .any, .any, .any, .any, .any, .any, .any, .any, .any, .any, .any, .any, .any, .any, .any, .any, .any, .any, .any, .any, .any, .any, .any, .any, .any, .any, .any, .any, .any, .any, .any, .any, .any, .any, .any, .any, .any, .any, .any, .any, .any, .any, .any, .any, .any, .any, .any], [.ex false [.c (.fs (.int .u8) t1.1 false), .c (.sc (.int .i64 t1.2.1)), .c (.sc (.int .i64 (p2 t1)))] 25, .ex false [.c (.fs (.int .u8) t243.2.1 false), .c (.sc (.int .i64 (p2 t243))), .c (.sc (.int .i64 (p3 t243)))] 25, .gro false (.int .u8) x127 5, .gro false (.int .u8) (x128 ++ t243.1) 5], 0⟩))))))))))))))) ∧ ((Option.isNone (z4 t243)) = false → (∃ t249 : Int, (Fun cfg 8 [.one (.err (z4 t243))] [] (num.R t249) [] ∧ True) ∧ (True) ∧ (((t249 != (11 : Int)) = true → (True ∧ (((True) ∧ (True) ∧ True) ∧ halterlaw18_PipeOrder.l0_Q t1 a0 r .ret ⟨[.any, .any, .v (.one (.sc (.bool false))), .any, .any, .any, .any, .any, .any, .any, .any, .any, .any, .any, .any, .any, .any, .any, .any, .any, .any, .any, .any, .any, .any, .any, .any, .any, .any, .any, .any, .any, .any, .any, .any, .any, .any, .any, .any, .any, .any, .any, .any, .any, .any, .any, .any, .any, .any, .any, .any, .any, .any, .any, .any, .any, .any, .any, .any, .any, .any, .any, .any, .any, .any, .any, .any, .any, .any, .any, .any, .any, .any, .any, .any, .any, .any, .any, .any, .any, .any, .any, .any, .any, .any, .any, .any, .any, .any, .any, .any, .any, .any, .any, .any, .any, .any, .any, .any, .any, .any, .any, .any, .any, .any, .any, .any, .any, .any, .any, .any, .any, .any, .any, .any, .any, .any, .any, .any, .any, .any, .any, .any, .any, .any, .any, .any, .any, .any, .any, .any, .any, .any, .any, .any, .any, .any, .any, .any, .any, .any, .any], [.ex false [.c (.fs (.int .u8) t1.1 false), .c (.sc (.int .i64 t1.2.1)), .c (.sc (.int .i64 (p2 t1)))] 25, .ex false [.c (.fs (.int .u8) x124 false), .c (.sc (.int .i64 x125)), .c (.sc (.int .i64 x126))] 25, .gro false (.int .u8) x127 5, .gro false (.int .u8) x128 5], 0⟩))) ∧ ((t249 != (11 : Int)) = false → (True) ∧ (True) ∧ (True) ∧ (((decide ((((List.length x124) : Nat) : Int) > (64 : Int))) = false → ((decide ((((List.length x124) : Nat) : Int) > (64 : Int))) = false ∧ (0 = 0 ∧ (List.length x127) = (List.length x127)) ∧ ((decide ((((List.length x124) : Nat) : Int) > (64 : Int))) = false ∧ ((decide ((((List.length x124) : Nat) : Int) > (64 : Int))) = false ∧ (0 = 0 ∧ (List.length x128) = (List.length x128)) ∧ ((decide ((((List.length x124) : Nat) : Int) > (64 : Int))) = false ∧ ((decide ((((List.length x124) : Nat) : Int) > (64 : Int))) = false ∧ (True) ∧ ((decide ((((List.length x124) : Nat) : Int) > (64 : Int))) = false ∧ (True) ∧ ((decide ((((List.length x124) : Nat) : Int) > (64 : Int))) = false ∧ (ByteArray.size (strOfNums x128) + ByteArray.size (strOfNums x124) ≤ 9223372036854775807) ∧ ((decide ((((List.length x124) : Nat) : Int) > (64 : Int))) = false ∧ (True) ∧ ((decide ((((List.length x124) : Nat) : Int) > (64 : Int))) = false ∧ (((!((strOfNums x127).toList == ((strOfNums x128) ++ (strOfNums x124)).toList)) = true → (True ∧ (((True) ∧ (True) ∧ True) ∧ halterlaw18_PipeOrder.l0_Q t1 a0 r .ret ⟨[.any, .any, .v (.one (.sc (.bool false))), .any, .any, .any, .any, .any, .any, .any, .any, .any, .any, .any, .any, .any, .any, .any, .any, .any, .any, .any, .any, .any, .any, .any, .any, .any, .any, .any, .any, .any, .any, .any, .any, .any, .any, .any, .any, .any, .any, .any, .any, .any, .any, .any, .any, .any, .any, .any, .any, .any, .any, .any, .any, .any, .any, .any, .any, .any, .any, .any, .any, .any, .any, .any, .any, .any, .any, .any, .any, .any, .any, .any, .any, .any, .any, .any, .any, .any, .any, .any, .any, .any, .any, .any, .any, .any, .any, .any, .any, .any, .any, .any, .any, .any, .any, .any, .any, .any, .any, .any, .any, .any, .any, .any, .any, .any, .any, .any, .any, .any, .any, .any, .any, .any, .any, .any, .any, .any, .any, .any, .any, .any, .any, .any, .any, .any, .any, .any, .any, .any, .any, .any, .any, .any, .any, .any, .any, .any, .any, .any], [.ex false [.c (.fs (.int .u8) t1.1 false), .c (.sc (.int .i64 t1.2.1)), .c (.sc (.int .i64 (p2 t1)))] 25, .ex false [.c (.fs (.int .u8) x124 false), .c (.sc (.int .i64 x125)), .c (.sc (.int .i64 x126))] 25, .gro false (.int .u8) x127 5, .gro false (.int .u8) x128 5], 0⟩))) ∧ ((!((strOfNums x127).toList == ((strOfNums x128) ++ (strOfNums x124)).toList)) = false → (True ∧ (True ∧ (True) ∧ (((True) ∧ (True) ∧ True) ∧ TripN cfg (cpath (Tryd.f3.body.getD .skip) [1, 1, 1, 1, 1, 0, 1, 0, 0]) n (halterlaw18_PipeOrder.l0_S t1 a0 x124 x125 x126 x127 x128 (IntKind.wrap .i64 (x129 + (1 : Int)))) (halterlaw18_PipeOrder.l0_Q t1 a0 r)))))))))))))))) ∧ ((decide ((((List.length x124) : Nat) : Int) > (64 : Int))) = true → ((decide ((((List.length x124) : Nat) : Int) > (64 : Int))) = true ∧ ((decide ((((List.length x124) : Nat) : Int) > (64 : Int))) = true ∧ ((decide ((((List.length x124) : Nat) : Int) > (64 : Int))) = true ∧ ((decide ((((List.length x124) : Nat) : Int) > (64 : Int))) = true ∧ ((decide ((((List.length x124) : Nat) : Int) > (64 : Int))) = true ∧ ((decide ((((List.length x124) : Nat) : Int) > (64 : Int))) = true ∧ ((decide ((((List.length x124) : Nat) : Int) > (64 : Int))) = true ∧ ((decide ((((List.length x124) : Nat) : Int) > (64 : Int))) = true ∧ ((decide ((((List.length x124) : Nat) : Int) > (64 : Int))) = true ∧ (true = true ∧ (True ∧ (((True) ∧ (True) ∧ True) ∧ halterlaw18_PipeOrder.l0_Q t1 a0 r .ret ⟨[.any, .any, .v (.one (.sc (.bool false))), .any, .any, .any, .any, .any, .any, .any, .any, .any, .any, .any, .any, .any, .any, .any, .any, .any, .any, .any, .any, .any, .any, .any, .any, .any, .any, .any, .any, .any, .any, .any, .any, .any, .any, .any, .any, .any, .any, .any, .any, .any, .any, .any, .any, .any, .any, .any, .any, .any, .any, .any, .any, .any, .any, .any, .any, .any, .any, .any, .any, .any, .any, .any, .any, .any, .any, .any, .any, .any, .any, .any, .any, .any, .any, .any, .any, .any, .any, .any, .any, .any, .any, .any, .any, .any, .any, .any, .any, .any, .any, .any, .any, .any, .any, .any, .any, .any, .any, .any, .any, .any, .any, .any, .any, .any, .any, .any, .any, .any, .any, .any, .any, .any, .any, .any, .any, .any, .any, .any, .any, .any, .any, .any, .any, .any, .any, .any, .any, .any, .any, .any, .any, .any, .any, .any, .any, .any, .any, .any], [.ex false [.c (.fs (.int .u8) t1.1 false), .c (.sc (.int .i64 t1.2.1)), .c (.sc (.int .i64 (p2 t1)))] 25, .ex false [.c (.fs (.int .u8) x124 false), .c (.sc (.int .i64 x125)), .c (.sc (.int .i64 x126))] 25, .gro false (.int .u8) x127 5, .gro false (.int .u8) x128 5], 0⟩))))))))))))))))))))))))))))) ∧ ((decide (x129 < (40 : Int))) = false → (((True) ∧ (True) ∧ True) ∧ halterlaw18_PipeOrder.l0_Q t1 a0 r (.exit 0) ⟨[.any, .any, .any, .any, .any, .any, .any, .any, .any, .any, .any, .any, .any, .any, .any, .any, .any, .any, .any, .any, .any, .any, .any, .any, .any, .any, .any, .any, .any, .any, .any, .any, .any, .any, .any, .any, .any, .any, .any, .any, .any, .any, .any, .any, .any, .any, .any, .any, .any, .any, .any, .any, .any, .any, .any, .any, .any, .any, .any, .any, .any, .any, .any, .any, .any, .any, .any, .any, .any, .any, .any, .any, .any, .any, .any, .any, .any, .any, .any, .any, .any, .any, .any, .any, .any, .any, .any, .any, .any, .any, .any, .any, .any, .any, .any, .any, .any, .any, .any, .any, .any, .any, .any, .any, .any, .any, .any, .any, .any, .any, .any, .any, .any, .any, .any, .any, .any, .any, .any, .any, .any, .any, .any, .any, .any, .any, .any, .any, .any, .any, .any, .any, .any, .any, .any, .any, .any, .any, .any, .any, .any, .any], [.ex false [.c (.fs (.int .u8) t1.1 false), .c (.sc (.int .i64 t1.2.1)), .c (.sc (.int .i64 (p2 t1)))] 25, .ex false [.c (.fs (.int .u8) x124 false), .c (.sc (.int .i64 x125)), .c (.sc (.int .i64 x126))] 25, .gro false (.int .u8) x127 5, .gro false (.int .u8) x128 5], 0⟩)))))) ∧ ((decide (x129 < (((List.length a0) : Nat) : Int))) = false → ((decide (x129 < (((List.length a0) : Nat) : Int))) = false ∧ ((decide (x129 < (((List.length a0) : Nat) : Int))) = false ∧ (false = false ∧ (((True) ∧ (True) ∧ True) ∧ halterlaw18_PipeOrder.l0_Q t1 a0 r (.exit 0) ⟨[.any, .any, .any, .any, .any, .any, .any, .any, .any, .any, .any, .any, .any, .any, .any, .any, .any, .any, .any, .any, .any, .any, .any, .any, .any, .any, .any, .any, .any, .any, .any, .any, .any, .any, .any, .any, .any, .any, .any, .any, .any, .any, .any, .any, .any, .any, .any, .any, .any, .any, .any, .any, .any, .any, .any, .any, .any, .any, .any, .any, .any, .any, .any, .any, .any, .any, .any, .any, .any, .any, .any, .any, .any, .any, .any, .any, .any, .any, .any, .any, .any, .any, .any, .any, .any, .any, .any, .any, .any, .any, .any, .any, .any, .any, .any, .any, .any, .any, .any, .any, .any, .any, .any, .any, .any, .any, .any, .any, .any, .any, .any, .any, .any, .any, .any, .any, .any, .any, .any, .any, .any, .any, .any, .any, .any, .any, .any, .any, .any, .any, .any, .any, .any, .any, .any, .any, .any, .any, .any, .any, .any, .any], [.ex false [.c (.fs (.int .u8) t1.1 false), .c (.sc (.int .i64 t1.2.1)), .c (.sc (.int .i64 (p2 t1)))] 25, .ex false [.c (.fs (.int .u8) x124 false), .c (.sc (.int .i64 x125)), .c (.sc (.int .i64 x126))] 25, .gro false (.int .u8) x127 5, .gro false (.int .u8) x128 5], 0⟩))))))) (by kernel_rfl) ?_)
    refine ⟨trivial, ?_⟩
    refine ⟨trivial, ?_⟩
    refine ⟨fun b198 => ?_, fun b198 => ?_⟩
    · rw [if_pos (of_decide_eq_true b198)] at h
      refine ⟨b198, ?_⟩
      refine ⟨trivial, ?_⟩
      refine ⟨b198, ?_⟩
      refine ⟨fun b199 => ?_, fun b199 => ?_⟩
      · rw [if_pos (of_decide_eq_true b199)] at h
        obtain ⟨g254, h⟩ := of_guard h
        refine ⟨g254, ?_⟩
        refine ⟨trivial, ?_⟩
        refine ⟨trivial, ?_⟩
        refine ⟨trivial, ?_⟩
        refine ⟨fun b200 => ?_, fun b200 => ?_⟩
        · rw [if_pos (of_decide_eq_true b200)] at h
          refine ⟨trivial, ?_⟩
          refine ⟨trivial, ?_⟩
          refine ⟨trivial, ?_⟩
          exact ⟨⟨trivial, trivial, trivial⟩, ih x124 x125 x126 x127 x128 (IntKind.wrap .i64 (x129 + (1 : Int))) r h⟩
        · rw [if_neg (of_decide_eq_false b200)] at h
          obtain ⟨g201, h⟩ := of_guard h
          obtain ⟨t202, ht202, h⟩ := of_bind h
          refine ⟨t202, ?_⟩
          refine ⟨g201, trivial, trivial, ⟨pipe_Write.fun_ ht202, trivial⟩, trivial, ?_⟩
          refine ⟨trivial, ?_⟩
          refine ⟨fun b203 => ?_, fun b203 => ?_⟩
          · rw [if_pos (none_t b203)] at h
            refine ⟨trivial, ?_⟩
            refine ⟨fun b204 => ?_, fun b204 => ?_⟩
            · rw [if_neg (of_decide_eq_false b204)] at h
              refine ⟨b204, ?_⟩
              refine ⟨b204, ?_⟩
              refine ⟨b204, ?_⟩
              obtain ⟨g239, h⟩ := of_guard h
              refine ⟨g239, ?_⟩
              refine ⟨b204, ?_⟩
              refine ⟨b204, ?_⟩
              refine ⟨trivial, ?_⟩
              refine ⟨b204, ?_⟩
              refine ⟨trivial, ?_⟩
              refine ⟨b204, ?_⟩
              refine ⟨trivial, ?_⟩
              refine ⟨b204, ?_⟩
              refine ⟨fun b205 => ?_, fun b205 => ?_⟩
              · rw [if_neg (of_decide_eq_false b205)] at h
                refine ⟨b205, ?_⟩
                refine ⟨b205, ?_⟩
                refine ⟨b205, ?_⟩
                obtain ⟨g238, h⟩ := of_guard h
                refine ⟨g238, ?_⟩
                refine ⟨b205, ?_⟩
                refine ⟨b205, ?_⟩
                refine ⟨trivial, ?_⟩
                refine ⟨b205, ?_⟩
                refine ⟨trivial, ?_⟩
                refine ⟨b205, ?_⟩
                refine ⟨trivial, ?_⟩
                refine ⟨b205, ?_⟩
                refine ⟨fun b206 => ?_, fun b206 => ?_⟩
                · rw [if_pos (of_decide_eq_true b206)] at h
                  refine ⟨b206, ?_⟩
                  refine ⟨trivial, ?_⟩
                  refine ⟨b206, ?_⟩
                  refine ⟨trivial, ?_⟩
                  refine ⟨b206, ?_⟩
                  refine ⟨trivial, ?_⟩
                  refine ⟨b205, ?_⟩
                  refine ⟨b206, ?_⟩
                  refine ⟨b205, ?_⟩
                  refine ⟨fun b207 => ?_, fun b207 => ?_⟩
                  · rw [if_pos (bne_t b207)] at h
                    refine ⟨trivial, ?_⟩
                    obtain rfl := Option.some.inj h
                    exact ⟨⟨trivial, trivial, trivial⟩, rfl, rfl⟩
                  · rw [if_neg (not_not_intro (bne_f b207))] at h
                    obtain ⟨g222, h⟩ := of_guard h
                    refine ⟨g222, ?_⟩
                    refine ⟨trivial, ?_⟩
                    obtain ⟨g221, h⟩ := of_guard h
                    refine ⟨g221, ?_⟩
                    obtain ⟨g220, h⟩ := of_guard h
                    refine ⟨g220, ?_⟩
                    refine ⟨trivial, ?_⟩
                    refine ⟨trivial, ?_⟩
                    obtain ⟨g208, h⟩ := of_guard h
                    obtain ⟨t209, ht209, h⟩ := of_bind h
                    refine ⟨t209, ?_⟩
                    refine ⟨g208, trivial, trivial, trivial, (by decide), trivial, ⟨pipe_Read.fun_ ht209, trivial⟩, trivial, ?_⟩
                    refine ⟨trivial, ?_⟩
                    refine ⟨fun b210 => ?_, fun b210 => ?_⟩
                    · rw [if_pos (none_t b210)] at h
                      obtain ⟨g214, h⟩ := of_guard h
                      refine ⟨g214, ?_⟩
                      refine ⟨trivial, ?_⟩
                      refine ⟨trivial, ?_⟩
                      refine ⟨trivial, ?_⟩
                      refine ⟨trivial, ?_⟩
                      refine ⟨trivial, ?_⟩
                      refine ⟨fun b211 => ?_, fun b211 => ?_⟩
                      · rw [if_neg (of_decide_eq_false b211)] at h
                        refine ⟨b211, ?_⟩
                        refine ⟨⟨rfl, rfl⟩, ?_⟩
                        refine ⟨b211, ?_⟩
                        refine ⟨b211, ?_⟩
                        refine ⟨⟨rfl, rfl⟩, ?_⟩
                        refine ⟨b211, ?_⟩
                        refine ⟨b211, ?_⟩
                        refine ⟨trivial, ?_⟩
                        refine ⟨b211, ?_⟩
                        refine ⟨trivial, ?_⟩
                        refine ⟨b211, ?_⟩
                        obtain ⟨g213, h⟩ := of_guard h
                        refine ⟨g213, ?_⟩
                        refine ⟨b211, ?_⟩
                        refine ⟨trivial, ?_⟩
                        refine ⟨b211, ?_⟩
                        refine ⟨fun b212 => ?_, fun b212 => ?_⟩
                        · rw [if_pos (str_f (not_t b212))] at h
                          refine ⟨trivial, ?_⟩
                          obtain rfl := Option.some.inj h
                          exact ⟨⟨trivial, trivial, trivial⟩, rfl, rfl⟩
                        · rw [if_neg (not_not_intro (str_t (not_f b212)))] at h
                          refine ⟨trivial, ?_⟩
                          refine ⟨trivial, ?_⟩
                          refine ⟨trivial, ?_⟩
                          exact ⟨⟨trivial, trivial, trivial⟩, ih t209.2.1 t209.2.2.1 t209.2.2.2.1 (x127 ++ (List.take (Int.toNat t202.1) (List.getD a0 (Int.toNat x129) (([] : List Int), (0 : Int))).1)) (x128 ++ t209.1) (IntKind.wrap .i64 (x129 + (1 : Int))) r h⟩
                      · rw [if_pos (of_decide_eq_true b211)] at h
                        refine ⟨b211, ?_⟩
                        refine ⟨b211, ?_⟩
                        refine ⟨b211, ?_⟩
                        refine ⟨b211, ?_⟩
                        refine ⟨b211, ?_⟩
                        refine ⟨b211, ?_⟩
                        refine ⟨b211, ?_⟩
                        refine ⟨b211, ?_⟩
                        refine ⟨b211, ?_⟩
                        refine ⟨rfl, ?_⟩
                        refine ⟨trivial, ?_⟩
                        obtain rfl := Option.some.inj h
                        exact ⟨⟨trivial, trivial, trivial⟩, rfl, rfl⟩
                    · rw [if_neg (none_f b210)] at h
                      obtain ⟨t215, ht215, h⟩ := of_bind h
                      refine ⟨t215, ⟨num.fun_ ht215, trivial⟩, ?_⟩
                      refine ⟨trivial, ?_⟩
                      refine ⟨fun b216 => ?_, fun b216 => ?_⟩
                      · rw [if_pos (bne_t b216)] at h
                        refine ⟨trivial, ?_⟩
                        obtain rfl := Option.some.inj h
                        exact ⟨⟨trivial, trivial, trivial⟩, rfl, rfl⟩
                      · rw [if_neg (not_not_intro (bne_f b216))] at h
                        refine ⟨trivial, ?_⟩
                        refine ⟨trivial, ?_⟩
                        refine ⟨trivial, ?_⟩
                        refine ⟨fun b217 => ?_, fun b217 => ?_⟩
                        · rw [if_neg (of_decide_eq_false b217)] at h
                          refine ⟨b217, ?_⟩
                          refine ⟨⟨rfl, rfl⟩, ?_⟩
                          refine ⟨b217, ?_⟩
                          refine ⟨b217, ?_⟩
                          refine ⟨⟨rfl, rfl⟩, ?_⟩
                          refine ⟨b217, ?_⟩
                          refine ⟨b217, ?_⟩
                          refine ⟨trivial, ?_⟩
                          refine ⟨b217, ?_⟩
                          refine ⟨trivial, ?_⟩
                          refine ⟨b217, ?_⟩
                          obtain ⟨g219, h⟩ := of_guard h
                          refine ⟨g219, ?_⟩
                          refine ⟨b217, ?_⟩
                          refine ⟨trivial, ?_⟩
                          refine ⟨b217, ?_⟩
                          refine ⟨fun b218 => ?_, fun b218 => ?_⟩
                          · rw [if_pos (str_f (not_t b218))] at h
                            refine ⟨trivial, ?_⟩
                            obtain rfl := Option.some.inj h
                            exact ⟨⟨trivial, trivial, trivial⟩, rfl, rfl⟩
                          · rw [if_neg (not_not_intro (str_t (not_f b218)))] at h
                            refine ⟨trivial, ?_⟩
                            refine ⟨trivial, ?_⟩
                            refine ⟨trivial, ?_⟩
                            exact ⟨⟨trivial, trivial, trivial⟩, ih t202.2.1 t202.2.2.1 t202.2.2.2.1 (x127 ++ (List.take (Int.toNat t202.1) (List.getD a0 (Int.toNat x129) (([] : List Int), (0 : Int))).1)) x128 (IntKind.wrap .i64 (x129 + (1 : Int))) r h⟩
                        · rw [if_pos (of_decide_eq_true b217)] at h
                          refine ⟨b217, ?_⟩
                          refine ⟨b217, ?_⟩
                          refine ⟨b217, ?_⟩
                          refine ⟨b217, ?_⟩
                          refine ⟨b217, ?_⟩
                          refine ⟨b217, ?_⟩
                          refine ⟨b217, ?_⟩
                          refine ⟨b217, ?_⟩
                          refine ⟨b217, ?_⟩
                          refine ⟨rfl, ?_⟩
                          refine ⟨trivial, ?_⟩
                          obtain rfl := Option.some.inj h
                          exact ⟨⟨trivial, trivial, trivial⟩, rfl, rfl⟩
                · rw [if_neg (of_decide_eq_false b206)] at h
                  refine ⟨b206, ?_⟩
                  refine ⟨b206, ?_⟩
                  refine ⟨b206, ?_⟩
                  refine ⟨b205, ?_⟩
                  refine ⟨b206, ?_⟩
                  refine ⟨b205, ?_⟩
                  refine ⟨rfl, ?_⟩
                  obtain ⟨g237, h⟩ := of_guard h
                  refine ⟨g237, ?_⟩
                  refine ⟨trivial, ?_⟩
                  obtain ⟨g236, h⟩ := of_guard h
                  refine ⟨g236, ?_⟩
                  obtain ⟨g235, h⟩ := of_guard h
                  refine ⟨g235, ?_⟩
                  refine ⟨trivial, ?_⟩
                  refine ⟨trivial, ?_⟩
                  obtain ⟨g223, h⟩ := of_guard h
                  obtain ⟨t224, ht224, h⟩ := of_bind h
                  refine ⟨t224, ?_⟩
                  refine ⟨g223, trivial, trivial, trivial, (by decide), trivial, ⟨pipe_Read.fun_ ht224, trivial⟩, trivial, ?_⟩
                  refine ⟨trivial, ?_⟩
                  refine ⟨fun b225 => ?_, fun b225 => ?_⟩
                  · rw [if_pos (none_t b225)] at h
                    obtain ⟨g229, h⟩ := of_guard h
                    refine ⟨g229, ?_⟩
                    refine ⟨trivial, ?_⟩
                    refine ⟨trivial, ?_⟩
                    refine ⟨trivial, ?_⟩
                    refine ⟨trivial, ?_⟩
                    refine ⟨trivial, ?_⟩
                    refine ⟨fun b226 => ?_, fun b226 => ?_⟩
                    · rw [if_neg (of_decide_eq_false b226)] at h
                      refine ⟨b226, ?_⟩
                      refine ⟨⟨rfl, rfl⟩, ?_⟩
                      refine ⟨b226, ?_⟩
                      refine ⟨b226, ?_⟩
                      refine ⟨⟨rfl, rfl⟩, ?_⟩
                      refine ⟨b226, ?_⟩
                      refine ⟨b226, ?_⟩
                      refine ⟨trivial, ?_⟩
                      refine ⟨b226, ?_⟩
                      refine ⟨trivial, ?_⟩
                      refine ⟨b226, ?_⟩
                      obtain ⟨g228, h⟩ := of_guard h
                      refine ⟨g228, ?_⟩
                      refine ⟨b226, ?_⟩
                      refine ⟨trivial, ?_⟩
                      refine ⟨b226, ?_⟩
                      refine ⟨fun b227 => ?_, fun b227 => ?_⟩
                      · rw [if_pos (str_f (not_t b227))] at h
                        refine ⟨trivial, ?_⟩
                        obtain rfl := Option.some.inj h
                        exact ⟨⟨trivial, trivial, trivial⟩, rfl, rfl⟩
                      · rw [if_neg (not_not_intro (str_t (not_f b227)))] at h
                        refine ⟨trivial, ?_⟩
                        refine ⟨trivial, ?_⟩
                        refine ⟨trivial, ?_⟩
                        exact ⟨⟨trivial, trivial, trivial⟩, ih t224.2.1 t224.2.2.1 t224.2.2.2.1 (x127 ++ (List.take (Int.toNat t202.1) (List.getD a0 (Int.toNat x129) (([] : List Int), (0 : Int))).1)) (x128 ++ t224.1) (IntKind.wrap .i64 (x129 + (1 : Int))) r h⟩
                    · rw [if_pos (of_decide_eq_true b226)] at h
                      refine ⟨b226, ?_⟩
                      refine ⟨b226, ?_⟩
                      refine ⟨b226, ?_⟩
                      refine ⟨b226, ?_⟩
                      refine ⟨b226, ?_⟩
                      refine ⟨b226, ?_⟩
                      refine ⟨b226, ?_⟩
                      refine ⟨b226, ?_⟩
                      refine ⟨b226, ?_⟩
                      refine ⟨rfl, ?_⟩
                      refine ⟨trivial, ?_⟩
                      obtain rfl := Option.some.inj h
                      exact ⟨⟨trivial, trivial, trivial⟩, rfl, rfl⟩
                  · rw [if_neg (none_f b225)] at h
                    obtain ⟨t230, ht230, h⟩ := of_bind h
                    refine ⟨t230, ⟨num.fun_ ht230, trivial⟩, ?_⟩
                    refine ⟨trivial, ?_⟩
                    refine ⟨fun b231 => ?_, fun b231 => ?_⟩
                    · rw [if_pos (bne_t b231)] at h
                      refine ⟨trivial, ?_⟩
                      obtain rfl := Option.some.inj h
                      exact ⟨⟨trivial, trivial, trivial⟩, rfl, rfl⟩
                    · rw [if_neg (not_not_intro (bne_f b231))] at h
                      refine ⟨trivial, ?_⟩
                      refine ⟨trivial, ?_⟩
                      refine ⟨trivial, ?_⟩
                      refine ⟨fun b232 => ?_, fun b232 => ?_⟩
                      · rw [if_neg (of_decide_eq_false b232)] at h
                        refine ⟨b232, ?_⟩
                        refine ⟨⟨rfl, rfl⟩, ?_⟩
                        refine ⟨b232, ?_⟩
                        refine ⟨b232, ?_⟩
                        refine ⟨⟨rfl, rfl⟩, ?_⟩
                        refine ⟨b232, ?_⟩
                        refine ⟨b232, ?_⟩
                        refine ⟨trivial, ?_⟩
                        refine ⟨b232, ?_⟩
                        refine ⟨trivial, ?_⟩
                        refine ⟨b232, ?_⟩
                        obtain ⟨g234, h⟩ := of_guard h
                        refine ⟨g234, ?_⟩
                        refine ⟨b232, ?_⟩
                        refine ⟨trivial, ?_⟩
                        refine ⟨b232, ?_⟩
                        refine ⟨fun b233 => ?_, fun b233 => ?_⟩
                        · rw [if_pos (str_f (not_t b233))] at h
                          refine ⟨trivial, ?_⟩
                          obtain rfl := Option.some.inj h
                          exact ⟨⟨trivial, trivial, trivial⟩, rfl, rfl⟩
                        · rw [if_neg (not_not_intro (str_t (not_f b233)))] at h
                          refine ⟨trivial, ?_⟩
                          refine ⟨trivial, ?_⟩
                          refine ⟨trivial, ?_⟩
                          exact ⟨⟨trivial, trivial, trivial⟩, ih t202.2.1 t202.2.2.1 t202.2.2.2.1 (x127 ++ (List.take (Int.toNat t202.1) (List.getD a0 (Int.toNat x129) (([] : List Int), (0 : Int))).1)) x128 (IntKind.wrap .i64 (x129 + (1 : Int))) r h⟩
                      · rw [if_pos (of_decide_eq_true b232)] at h
                        refine ⟨b232, ?_⟩
                        refine ⟨b232, ?_⟩
                        refine ⟨b232, ?_⟩
                        refine ⟨b232, ?_⟩
                        refine ⟨b232, ?_⟩
                        refine ⟨b232, ?_⟩
                        refine ⟨b232, ?_⟩
                        refine ⟨b232, ?_⟩
                        refine ⟨b232, ?_⟩
                        refine ⟨rfl, ?_⟩
                        refine ⟨trivial, ?_⟩
                        obtain rfl := Option.some.inj h
                        exact ⟨⟨trivial, trivial, trivial⟩, rfl, rfl⟩
              · rw [if_pos (of_decide_eq_true b205)] at h
                refine ⟨b205, ?_⟩
                refine ⟨b205, ?_⟩
                refine ⟨b205, ?_⟩
                refine ⟨b205, ?_⟩
                refine ⟨b205, ?_⟩
                refine ⟨b205, ?_⟩
                refine ⟨b205, ?_⟩
                refine ⟨b205, ?_⟩
                refine ⟨b205, ?_⟩
                refine ⟨b205, ?_⟩
                refine ⟨rfl, ?_⟩
                refine ⟨trivial, ?_⟩
                obtain rfl := Option.some.inj h
                exact ⟨⟨trivial, trivial, trivial⟩, rfl, rfl⟩
            · rw [if_pos (of_decide_eq_true b204)] at h
              refine ⟨b204, ?_⟩
              refine ⟨b204, ?_⟩
              refine ⟨b204, ?_⟩
              refine ⟨b204, ?_⟩
              refine ⟨b204, ?_⟩
              refine ⟨b204, ?_⟩
              refine ⟨b204, ?_⟩
              refine ⟨b204, ?_⟩
              refine ⟨rfl, ?_⟩
              refine ⟨rfl, ?_⟩
              refine ⟨rfl, ?_⟩
              refine ⟨rfl, ?_⟩
              refine ⟨rfl, ?_⟩
              refine ⟨rfl, ?_⟩
              refine ⟨rfl, ?_⟩
              refine ⟨rfl, ?_⟩
              refine ⟨rfl, ?_⟩
              refine ⟨rfl, ?_⟩
              refine ⟨rfl, ?_⟩
              refine ⟨rfl, ?_⟩
              refine ⟨trivial, ?_⟩
              obtain rfl := Option.some.inj h
              exact ⟨⟨trivial, trivial, trivial⟩, rfl, rfl⟩
          · rw [if_neg (none_f b203)] at h
            obtain ⟨t240, ht240, h⟩ := of_bind h
            refine ⟨t240, ⟨num.fun_ ht240, trivial⟩, ?_⟩
            refine ⟨trivial, ?_⟩
            refine ⟨fun b241 => ?_, fun b241 => ?_⟩
            · rw [if_pos (bne_t b241)] at h
              refine ⟨trivial, ?_⟩
              obtain rfl := Option.some.inj h
              exact ⟨⟨trivial, trivial, trivial⟩, rfl, rfl⟩
            · rw [if_neg (not_not_intro (bne_f b241))] at h
              obtain ⟨g242, h⟩ := of_guard h
              obtain ⟨t243, ht243, h⟩ := of_bind h
              refine ⟨t243, ?_⟩
              refine ⟨g242, trivial, trivial, trivial, (by decide), trivial, ⟨pipe_Read.fun_ ht243, trivial⟩, trivial, ?_⟩
              refine ⟨trivial, ?_⟩
              refine ⟨fun b244 => ?_, fun b244 => ?_⟩
              · rw [if_pos (none_t b244)] at h
                obtain ⟨g248, h⟩ := of_guard h
                refine ⟨g248, ?_⟩
                refine ⟨trivial, ?_⟩
                refine ⟨trivial, ?_⟩
                refine ⟨trivial, ?_⟩
                refine ⟨trivial, ?_⟩
                refine ⟨trivial, ?_⟩
                refine ⟨fun b245 => ?_, fun b245 => ?_⟩
                · rw [if_neg (of_decide_eq_false b245)] at h
                  refine ⟨b245, ?_⟩
                  refine ⟨⟨rfl, rfl⟩, ?_⟩
                  refine ⟨b245, ?_⟩
                  refine ⟨b245, ?_⟩
                  refine ⟨⟨rfl, rfl⟩, ?_⟩
                  refine ⟨b245, ?_⟩
                  refine ⟨b245, ?_⟩
                  refine ⟨trivial, ?_⟩
                  refine ⟨b245, ?_⟩
                  refine ⟨trivial, ?_⟩
                  refine ⟨b245, ?_⟩
                  obtain ⟨g247, h⟩ := of_guard h
                  refine ⟨g247, ?_⟩
                  refine ⟨b245, ?_⟩
                  refine ⟨trivial, ?_⟩
                  refine ⟨b245, ?_⟩
                  refine ⟨fun b246 => ?_, fun b246 => ?_⟩
                  · rw [if_pos (str_f (not_t b246))] at h
                    refine ⟨trivial, ?_⟩
                    obtain rfl := Option.some.inj h
                    exact ⟨⟨trivial, trivial, trivial⟩, rfl, rfl⟩
                  · rw [if_neg (not_not_intro (str_t (not_f b246)))] at h
                    refine ⟨trivial, ?_⟩
                    refine ⟨trivial, ?_⟩
                    refine ⟨trivial, ?_⟩
                    exact ⟨⟨trivial, trivial, trivial⟩, ih t243.2.1 t243.2.2.1 t243.2.2.2.1 x127 (x128 ++ t243.1) (IntKind.wrap .i64 (x129 + (1 : Int))) r h⟩
                · rw [if_pos (of_decide_eq_true b245)] at h
                  refine ⟨b245, ?_⟩
                  refine ⟨b245, ?_⟩
                  refine ⟨b245, ?_⟩
                  refine ⟨b245, ?_⟩
                  refine ⟨b245, ?_⟩
                  refine ⟨b245, ?_⟩
                  refine ⟨b245, ?_⟩
                  refine ⟨b245, ?_⟩
                  refine ⟨b245, ?_⟩
                  refine ⟨rfl, ?_⟩
                  refine ⟨trivial, ?_⟩
                  obtain rfl := Option.some.inj h
                  exact ⟨⟨trivial, trivial, trivial⟩, rfl, rfl⟩
              · rw [if_neg (none_f b244)] at h
                obtain ⟨t249, ht249, h⟩ := of_bind h
                refine ⟨t249, ⟨num.fun_ ht249, trivial⟩, ?_⟩
                refine ⟨trivial, ?_⟩
                refine ⟨fun b250 => ?_, fun b250 => ?_⟩
                · rw [if_pos (bne_t b250)] at h
                  refine ⟨trivial, ?_⟩
                  obtain rfl := Option.some.inj h
                  exact ⟨⟨trivial, trivial, trivial⟩, rfl, rfl⟩
                · rw [if_neg (not_not_intro (bne_f b250))] at h
                  refine ⟨trivial, ?_⟩
                  refine ⟨trivial, ?_⟩
                  refine ⟨trivial, ?_⟩
                  refine ⟨fun b251 => ?_, fun b251 => ?_⟩
                  · rw [if_neg (of_decide_eq_false b251)] at h
                    refine ⟨b251, ?_⟩
                    refine ⟨⟨rfl, rfl⟩, ?_⟩
                    refine ⟨b251, ?_⟩
                    refine ⟨b251, ?_⟩
                    refine ⟨⟨rfl, rfl⟩, ?_⟩
                    refine ⟨b251, ?_⟩
                    refine ⟨b251, ?_⟩
                    refine ⟨trivial, ?_⟩
                    refine ⟨b251, ?_⟩
                    refine ⟨trivial, ?_⟩
                    refine ⟨b251, ?_⟩
                    obtain ⟨g253, h⟩ := of_guard h
                    refine ⟨g253, ?_⟩
                    refine ⟨b251, ?_⟩
                    refine ⟨trivial, ?_⟩
                    refine ⟨b251, ?_⟩
                    refine ⟨fun b252 => ?_, fun b252 => ?_⟩
                    · rw [if_pos (str_f (not_t b252))] at h
                      refine ⟨trivial, ?_⟩
                      obtain rfl := Option.some.inj h
                      exact ⟨⟨trivial, trivial, trivial⟩, rfl, rfl⟩
                    · rw [if_neg (not_not_intro (str_t (not_f b252)))] at h
                      refine ⟨trivial, ?_⟩
                      refine ⟨trivial, ?_⟩
                      refine ⟨trivial, ?_⟩
                      exact ⟨⟨trivial, trivial, trivial⟩, ih x124 x125 x126 x127 x128 (IntKind.wrap .i64 (x129 + (1 : Int))) r h⟩
                  · rw [if_pos (of_decide_eq_true b251)] at h
                    refine ⟨b251, ?_⟩
                    refine ⟨b251, ?_⟩
                    refine ⟨b251, ?_⟩
                    refine ⟨b251, ?_⟩
                    refine ⟨b251, ?_⟩
                    refine ⟨b251, ?_⟩
                    refine ⟨b251, ?_⟩
                    refine ⟨b251, ?_⟩
                    refine ⟨b251, ?_⟩
                    refine ⟨rfl, ?_⟩
                    refine ⟨trivial, ?_⟩
                    obtain rfl := Option.some.inj h
                    exact ⟨⟨trivial, trivial, trivial⟩, rfl, rfl⟩
      · rw [if_neg (of_decide_eq_false b199)] at h
        obtain rfl := Option.some.inj h
        exact ⟨⟨trivial, trivial, trivial⟩, rfl, rfl⟩
    · rw [if_neg (of_decide_eq_false b198)] at h
      refine ⟨b198, ?_⟩
      refine ⟨b198, ?_⟩
      refine ⟨rfl, ?_⟩
      obtain rfl := Option.some.inj h
      exact ⟨⟨trivial, trivial, trivial⟩, rfl, rfl⟩
def halterlaw18_PipeOrder.f (a0 : (List ((List Int) × Int))) : Option Bool :=
  (pipe_Open.f ([] : List Int) (0 : Int) (0 : Int) false).bind fun t1 =>
  (pipe_Open.f t1.1 t1.2.1 t1.2.2.1 true).bind fun t2 =>
  if ¬ (t1.2.2.2 = none) then
    some false
  else
    if ¬ (t2.2.2.2 = none) then
      some false
    else
      (halterlaw18_PipeOrder.l0 t1 a0 FUEL t2.1 t2.2.1 t2.2.2.1 ([] : List Int) ([] : List Int) (0 : Int)).bind fun t197 =>
      match t197 with
      | .inl t265 =>
        halterlaw18_sure.f.bind fun t271 =>
        some t271
      | .inr t272 =>
        some false
def halterlaw18_PipeOrder.R (r : Bool) : Tm := .v (.one (.sc (.bool r)))
theorem halterlaw18_PipeOrder.fun_ {a0 : (List ((List Int) × Int))} {r : Bool} (h : halterlaw18_PipeOrder.f a0 = some r) : Fun cfg 3 [.one (.fs (.pair (.sl (.int .u8)) (.int .i64)) a0 false)] [] (halterlaw18_PipeOrder.R r) [] := by
  unfold halterlaw18_PipeOrder.f at h
  refine fun_of_run cfg_ok (f := 3) (fn := Tryd.f3) Tryd.func3 rfl (by kernel_rfl) (rs := [.tmp 2]) rfl (nt := 142) rfl (l := fin) (k := (.call true [(.int .u8)] ((List Int) × Int × Int × (Option Int)) (fun t1 => pipe_Open.R t1) (fun t1 => (.call true [] ((List Int) × Int × Int × (Option Int)) (fun t2 => pipe_Open.R t2) (fun t2 => (.br (.one true (.one true (.one true (.adj [] (.adj [] (.adj [.drop 0] .nil)))))) (.one false (.one false (.br (.adj [] (.adj [] (.adj [.drop 0] .nil))) (.adj [] (.adj [] (.adj [] (.adj [] (.adj [.keep [0, 5, 7, 8, 9], .nilGro 7 (.int .u8) 5, .nilGro 8 (.int .u8) 5] (.alt (.sub (TY1) (fun _ => (.exit 0)) (fun t265 => ⟨[.any, .any, .any, .any, .any, .any, .any, .any, .any, .any, .any, .any, .any, .any, .any, .any, .any, .any, .any, .any, .any, .any, .any, .any, .any, .any, .any, .any, .any, .any, .any, .any, .any, .any, .any, .any, .any, .any, .any, .any, .any, .any, .any, .any, .any, .any, .any, .any, .any, .any, .any, .any, .any, .any, .any, .any, .any, .any, .any, .any, .any, .any, .any, .any, .any, .any, .any, .any, .any, .any, .any, .any, .any, .any, .any, .any, .any, .any, .any, .any, .any, .any, .any, .any, .any, .any, .any, .any, .any, .any, .any, .any, .any, .any, .any, .any, .any, .any, .any, .any, .any, .any, .any, .any, .any, .any, .any, .any, .any, .any, .any, .any, .any, .any, .any, .any, .any, .any, .any, .any, .any, .any, .any, .any, .any, .any, .any, .any, .any, .any, .any, .any, .any, .any, .any, .any, .any, .any, .any, .any, .any, .any], [.ex false [.c (.fs (.int .u8) t1.1 false), .c (.sc (.int .i64 t1.2.1)), .c (.sc (.int .i64 (p2 t1)))] 25, .ex false [.c (.fs (.int .u8) t265.1 false), .c (.sc (.int .i64 t265.2.1)), .c (.sc (.int .i64 (p2 t265)))] 25, .gro false (.int .u8) (p3 t265) 5, .gro false (.int .u8) (z4 t265) 5], 0⟩) (fun t265 => (.call true [] (Bool) (fun t271 => halterlaw18_sure.R t271) (fun t271 => (.adj [] (.adj [.drop 0] .nil)))))) (.sub (TY1) (fun _ => .ret) (fun t272 => ⟨[.any, .any, .v (.one (.sc (.bool false))), .any, .any, .any, .any, .any, .any, .any, .any, .any, .any, .any, .any, .any, .any, .any, .any, .any, .any, .any, .any, .any, .any, .any, .any, .any, .any, .any, .any, .any, .any, .any, .any, .any, .any, .any, .any, .any, .any, .any, .any, .any, .any, .any, .any, .any, .any, .any, .any, .any, .any, .any, .any, .any, .any, .any, .any, .any, .any, .any, .any, .any, .any, .any, .any, .any, .any, .any, .any, .any, .any, .any, .any, .any, .any, .any, .any, .any, .any, .any, .any, .any, .any, .any, .any, .any, .any, .any, .any, .any, .any, .any, .any, .any, .any, .any, .any, .any, .any, .any, .any, .any, .any, .any, .any, .any, .any, .any, .any, .any, .any, .any, .any, .any, .any, .any, .any, .any, .any, .any, .any, .any, .any, .any, .any, .any, .any, .any, .any, .any, .any, .any, .any, .any, .any, .any, .any, .any, .any, .any], [.ex false [.c (.fs (.int .u8) t1.1 false), .c (.sc (.int .i64 t1.2.1)), .c (.sc (.int .i64 (p2 t1)))] 25, .ex false [.c (.fs (.int .u8) t272.1 false), .c (.sc (.int .i64 t272.2.1)), .c (.sc (.int .i64 (p2 t272)))] 25, .gro false (.int .u8) (p3 t272) 5, .gro false (.int .u8) (z4 t272) 5], 0⟩) (fun t272 => (.adj [.drop 0] .nil)))))))))))))))))) (to_goal (q := (∃ t1 : (List Int) × Int × Int × (Option Int), (Fun cfg 6 [.agg [.c (.fs (.int .u8) ([] : List Int) false), .c (.sc (.int .i64 (0 : Int))), .c (.sc (.int .i64 (0 : Int)))], .one (.sc (.bool false))] [] (pipe_Open.R t1) [] ∧ True) ∧ (True) ∧ (True) ∧ (∃ t2 : (List Int) × Int × Int × (Option Int), (Fun cfg 6 [.agg [.c (.fs (.int .u8) t1.1 false), .c (.sc (.int .i64 t1.2.1)), .c (.sc (.int .i64 (p2 t1)))], .one (.sc (.bool true))] [] (pipe_Open.R t2) [] ∧ True) ∧ (True) ∧ (True) ∧ (((!(Option.isNone (z3 t1))) = false → ((!(Option.isNone (z3 t1))) = false ∧ (True) ∧ ((!(Option.isNone (z3 t1))) = false ∧ (((!(Option.isNone (z3 t2))) = true → (True ∧ (True ∧ ((True) ∧ ((True) ∧ True) ∧ (.v (.one (.sc (.bool false))) : Tm) = halterlaw18_PipeOrder.R r ∧ ([] : List Box) = [])))) ∧ ((!(Option.isNone (z3 t2))) = false → (True ∧ (True ∧ (True ∧ (True ∧ (((True) ∧ (True) ∧ (True) ∧ True) ∧ ((∃ t265 : TY1, Trip cfg (.loop (cpath (Tryd.f3.body.getD .skip) [1, 1, 1, 1, 1, 0, 1, 0, 0])) ⟨[.v (.one (.fs (.pair (.sl (.int .u8)) (.int .i64)) a0 false)), .any, .any, .any, .any, .v (.one (.ptr 1 ⟨0, 0, 0, 0⟩)), .any, .v (.one (.os 2 0 0 1 0 none)), .v (.one (.os 3 0 0 1 0 none)), .v (.one (.sc (.int .i64 (0 : Int)))), .any, .any, .any, .any, .any, .any, .any, .any, .any, .any, .any, .any, .any, .any, .any, .any, .any, .any, .any, .any, .any, .any, .any, .any, .any, .any, .any, .any, .any, .any, .any, .any, .any, .any, .any, .any, .any, .any, .any, .any, .any, .any, .any, .any, .any, .any, .any, .any, .any, .any, .any, .any, .any, .any, .any, .any, .any, .any, .any, .any, .any, .any, .any, .any, .any, .any, .any, .any, .any, .any, .any, .any, .any, .any, .any, .any, .any, .any, .any, .any, .any, .any, .any, .any, .any, .any, .any, .any, .any, .any, .any, .any, .any, .any, .any, .any, .any, .any, .any, .any, .any, .any, .any, .any, .any, .any, .any, .any, .any, .any, .any, .any, .any, .any, .any, .any, .any, .any, .any, .any, .any, .any, .any, .any, .any, .any, .any, .any, .any, .any, .any, .any], [.ex false [.c (.fs (.int .u8) t1.1 false), .c (.sc (.int .i64 t1.2.1)), .c (.sc (.int .i64 (p2 t1)))] 25, .ex false [.c (.fs (.int .u8) t2.1 false), .c (.sc (.int .i64 t2.2.1)), .c (.sc (.int .i64 (p2 t2)))] 25, .gro false (.int .u8) ([] : List Int) 5, .gro false (.int .u8) ([] : List Int) 5], 0⟩ (fun e s => e = (.exit 0) ∧ s = ⟨[.any, .any, .any, .any, .any, .any, .any, .any, .any, .any, .any, .any, .any, .any, .any, .any, .any, .any, .any, .any, .any, .any, .any, .any, .any, .any, .any, .any, .any, .any, .any, .any, .any, .any, .any, .any, .any, .any, .any, .any, .any, .any, .any, .any, .any, .any, .any, .any, .any, .any, .any, .any, .any, .any, .any, .any, .any, .any, .any, .any, .any, .any, .any, .any, .any, .any, .any, .any, .any, .any, .any, .any, .any, .any, .any, .any, .any, .any, .any, .any, .any, .any, .any, .any, .any, .any, .any, .any, .any, .any, .any, .any, .any, .any, .any, .any, .any, .any, .any, .any, .any, .any, .any, .any, .any, .any, .any, .any, .any, .any, .any, .any, .any, .any, .any, .any, .any, .any, .any, .any, .any, .any, .any, .any, .any, .any, .any, .any, .any, .any, .any, .any, .any, .any, .any, .any, .any, .any, .any, .any, .any, .any], [.ex false [.c (.fs (.int .u8) t1.1 false), .c (.sc (.int .i64 t1.2.1)), .c (.sc (.int .i64 (p2 t1)))] 25, .ex false [.c (.fs (.int .u8) t265.1 false), .c (.sc (.int .i64 t265.2.1)), .c (.sc (.int .i64 (p2 t265)))] 25, .gro false (.int .u8) (p3 t265) 5, .gro false (.int .u8) (z4 t265) 5], 0⟩) ∧ (∃ t271 : Bool, (Fun cfg 10 [] [] (halterlaw18_sure.R t271) [] ∧ True) ∧ (True ∧ ((True) ∧ ((True) ∧ True) ∧ (.v (.one (.sc (.bool t271))) : Tm) = halterlaw18_PipeOrder.R r ∧ ([] : List Box) = [])))) ∨ (∃ t272 : TY1, Trip cfg (.loop (cpath (Tryd.f3.body.getD .skip) [1, 1, 1, 1, 1, 0, 1, 0, 0])) ⟨[.v (.one (.fs (.pair (.sl (.int .u8)) (.int .i64)) a0 false)), .any, .any, .any, .any, .v (.one (.ptr 1 ⟨0, 0, 0, 0⟩)), .any, .v (.one (.os 2 0 0 1 0 none)), .v (.one (.os 3 0 0 1 0 none)), .v (.one (.sc (.int .i64 (0 : Int)))), .any, .any, .any, .any, .any, .any, .any, .any, .any, .any, .any, .any, .any, .any, .any, .any, .any, .any, .any, .any, .any, .any, .any, .any, .any, .any, .any, .any, .any, .any, .any, .any, .any, .any, .any, .any, .any, .any, .any, .any, .any, .any, .any, .any, .any, .any, .any, .any, .any, .any, .any, .any, .any, .any, .any, .any, .any, .any, .any, .any, .any, .any, .any, .any, .any, .any, .any, .any, .any, .any, .any, .any, .any, .any, .any, .any, .any, .any, .any, .any, .any, .any, .any, .any, .any, .any, .any, .any, .any, .any, .any, .any, .any, .any, .any, .any, .any, .any, .any, .any, .any, .any, .any, .any, .any, .any, .any, .any, .any, .any, .any, .any, .any, .any, .any, .any, .any, .any, .any, .any, .any, .any, .any, .any, .any, .any, .any, .any, .any, .any, .any, .any], [.ex false [.c (.fs (.int .u8) t1.1 false), .c (.sc (.int .i64 t1.2.1)), .c (.sc (.int .i64 (p2 t1)))] 25, .ex false [.c (.fs (.int .u8) t2.1 false), .c (.sc (.int .i64 t2.2.1)), .c (.sc (.int .i64 (p2 t2)))] 25, .gro false (.int .u8) ([] : List Int) 5, .gro false (.int .u8) ([] : List Int) 5], 0⟩ (fun e s => e = .ret ∧ s = ⟨[.any, .any, .v (.one (.sc (.bool false))), .any, .any, .any, .any, .any, .any, .any, .any, .any, .any, .any, .any, .any, .any, .any, .any, .any, .any, .any, .any, .any, .any, .any, .any, .any, .any, .any, .any, .any, .any, .any, .any, .any, .any, .any, .any, .any, .any, .any, .any, .any, .any, .any, .any, .any, .any, .any, .any, .any, .any, .any, .any, .any, .any, .any, .any, .any, .any, .any, .any, .any, .any, .any, .any, .any, .any, .any, .any, .any, .any, .any, .any, .any, .any, .any, .any, .any, .any, .any, .any, .any, .any, .any, .any, .any, .any, .any, .any, .any, .any, .any, .any, .any, .any, .any, .any, .any, .any, .any, .any, .any, .any, .any, .any, .any, .any, .any, .any, .any, .any, .any, .any, .any, .any, .any, .any, .any, .any, .any, .any, .any, .any, .any, .any, .any, .any, .any, .any, .any, .any, .any, .any, .any, .any, .any, .any, .any, .any, .any], [.ex false [.c (.fs (.int .u8) t1.1 false), .c (.sc (.int .i64 t1.2.1)), .c (.sc (.int .i64 (p2 t1)))] 25, .ex false [.c (.fs (.int .u8) t272.1 false), .c (.sc (.int .i64 t272.2.1)), .c (.sc (.int .i64 (p2 t272)))] 25, .gro false (.int .u8) (p3 t272) 5, .gro false (.int .u8) (z4 t272) 5], 0⟩) ∧ ((True) ∧ ((True) ∧ True) ∧ (.v (.one (.sc (.bool false))) : Tm) = halterlaw18_PipeOrder.R r ∧ ([] : List Box) = []))))))))))))) ∧ ((!(Option.isNone (z3 t1))) = true → ((!(Option.isNone (z3 t1))) = true ∧ ((!(Option.isNone (z3 t1))) = true ∧ (true = true ∧ (True ∧ (True ∧ ((True) ∧ ((True) ∧ True) ∧ (.v (.one (.sc (.bool false))) : Tm) = halterlaw18_PipeOrder.R r ∧ ([] : List Box) = []))))))))))) (by kernel_rfl) ?_)
  obtain ⟨t1, ht1, h⟩ := of_bind h
  refine ⟨t1, ⟨pipe_Open.fun_ ht1, trivial⟩, ?_⟩
  refine ⟨trivial, ?_⟩
  refine ⟨trivial, ?_⟩
  obtain ⟨t2, ht2, h⟩ := of_bind h
  refine ⟨t2, ⟨pipe_Open.fun_ ht2, trivial⟩, ?_⟩
  refine ⟨trivial, ?_⟩
  refine ⟨trivial, ?_⟩
  refine ⟨fun b3 => ?_, fun b3 => ?_⟩
  · rw [if_neg (not_not_intro (none_t (not_f b3)))] at h
    refine ⟨b3, ?_⟩
    refine ⟨trivial, ?_⟩
    refine ⟨b3, ?_⟩
    refine ⟨fun b4 => ?_, fun b4 => ?_⟩
    · rw [if_pos (none_f (not_t b4))] at h
      refine ⟨trivial, ?_⟩
      refine ⟨trivial, ?_⟩
      obtain rfl := Option.some.inj h
      exact ⟨trivial, ⟨trivial, trivial⟩, rfl, rfl⟩
    · rw [if_neg (not_not_intro (none_t (not_f b4)))] at h
      refine ⟨trivial, ?_⟩
      refine ⟨trivial, ?_⟩
      refine ⟨trivial, ?_⟩
      refine ⟨trivial, ?_⟩
      obtain ⟨t197, ht197, h⟩ := of_bind h
      refine ⟨⟨trivial, trivial, trivial, trivial⟩, ?_⟩
      rcases t197 with t265 | t272
      · dsimp only at h
        left
        refine ⟨t265, Trip.loop FUEL (halterlaw18_PipeOrder.l0_ok t1 a0 FUEL t2.1 t2.2.1 t2.2.2.1 ([] : List Int) ([] : List Int) (0 : Int) (.inl t265) ht197), ?_⟩
        obtain ⟨t271, ht271, h⟩ := of_bind h
        refine ⟨t271, ⟨halterlaw18_sure.fun_ ht271, trivial⟩, ?_⟩
        refine ⟨trivial, ?_⟩
        obtain rfl := Option.some.inj h
        exact ⟨trivial, ⟨trivial, trivial⟩, rfl, rfl⟩
      · dsimp only at h
        right
        refine ⟨t272, Trip.loop FUEL (halterlaw18_PipeOrder.l0_ok t1 a0 FUEL t2.1 t2.2.1 t2.2.2.1 ([] : List Int) ([] : List Int) (0 : Int) (.inr t272) ht197), ?_⟩
        obtain rfl := Option.some.inj h
        exact ⟨trivial, ⟨trivial, trivial⟩, rfl, rfl⟩
  · rw [if_pos (none_f (not_t b3))] at h
    refine ⟨b3, ?_⟩
    refine ⟨b3, ?_⟩
    refine ⟨rfl, ?_⟩
    refine ⟨trivial, ?_⟩
    refine ⟨trivial, ?_⟩
    obtain rfl := Option.some.inj h
    exact ⟨trivial, ⟨trivial, trivial⟩, rfl, rfl⟩
end Go.Proofs.YtlkhfagmpoibaaaDoorGPipeOrder
