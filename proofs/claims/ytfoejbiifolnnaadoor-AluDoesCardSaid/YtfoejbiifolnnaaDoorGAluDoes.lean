/- Printed by gen.py: what functions of the program compute, in plain Lean, and that they do. -/
import Derived.Test.YtfoejbiifolnnaaDoorE15
import Derived.Test.YtfoejbiifolnnaaDoorN
import Derived.Test.YtfoejbiifolnnaaDoorF
set_option linter.unusedVariables false
set_option maxRecDepth 100000
set_option maxHeartbeats 4000000
namespace Go.Proofs.YtfoejbiifolnnaaDoorGAluDoes
open Go Go.Proofs.YtfoejbiifolnnaaDoorE
def tiL : List (Nat × TI) := [
  (2, ⟨1, 8, false, .int .i64, [.c (.sc (.int .i64 (0 : Int)))], some (.int .i64)⟩),
  (3, ⟨1, 8, false, .int .i64, [.c (.sc (.int .i64 (0 : Int)))], some (.int .i64)⟩),
  (4, ⟨1, 1, false, .bool, [.c (.sc (.bool false))], some .bool⟩),
  (21, ⟨1, 4, false, .int .i32, [.c (.sc (.int .i32 (0 : Int)))], some (.int .i32)⟩),
  (22, ⟨1, 4, false, .int .u32, [.c (.sc (.int .u32 (0 : Int)))], some (.int .u32)⟩),
  (23, ⟨3, 12, true, (.array 3 22), [.row 3 (.int .u32) (List.replicate 3 (0 : Int))], some (.arr 3 (.int .u32))⟩),
  (25, ⟨1, 16, false, .iface, [.c (.err none)], none⟩),
  (37, ⟨1, 8, false, .int .u64, [.c (.sc (.int .u64 (0 : Int)))], some (.int .u64)⟩),
  (47, ⟨1, 8, false, .int .u64, [.c (.sc (.int .u64 (0 : Int)))], some (.int .u64)⟩),
  (63, ⟨1, 8, false, .int .i64, [.c (.sc (.int .i64 (0 : Int)))], some (.int .i64)⟩)]
def tabs : List (Nat × IntKind × List Int) := []
noncomputable def cfg : Cfg := ⟨Tryd.prog, 63, [(⟨0, 0, none⟩, .iface 102 (.agg #[.pointer (some ⟨2, 25, none⟩)]))] ++ tabs.flatMap tabG, tiL, [], tabs⟩
theorem cfg_ok : COk cfg := by
  refine ⟨fun p hp => ?_, by kernel_rfl, fun p hp => ?_, fun t ht => ?_, fun x hx y hy => List.mem_append_right _ (List.mem_flatMap.2 ⟨x, hx, hy⟩)⟩
  · simp only [cfg, tiL, List.mem_cons, List.not_mem_nil, or_false] at hp
    rcases hp with rfl | rfl | rfl | rfl | rfl | rfl | rfl | rfl | rfl | rfl <;> exact ⟨by kernel_rfl, by kernel_rfl, by kernel_rfl, by kernel_rfl, by kernel_rfl, by kernel_rfl⟩
  · simp only [cfg, tiL, List.mem_cons, List.not_mem_nil, or_false] at hp
    rcases hp with rfl | rfl | rfl | rfl | rfl | rfl | rfl | rfl | rfl | rfl <;> intro fs hfs bl hbl
    · cases hfs
    · cases hfs
    · cases hfs
    · cases hfs
    · cases hfs
    · cases hfs
    · cases hfs
    · cases hfs
    · cases hfs
    · cases hfs
  · cases ht
def fin : Scr → List Adj
  | .adj l _ => l
  | _ => []
/-! the error's number -/
def num.f (a0 : Option Int) : Option Int := some (a0.getD 0)
def num.R (r : Int) : Tm := .v (.one (.sc (.int .i64 r)))
theorem num.fun_ {a0 : Option Int} {r : Int} (h : num.f a0 = some r) : Fun cfg 11 [.one (.err a0)] [] (num.R r) [] := by
  refine Fun.of_below (f := 11) (fn := Tryd.f11) Tryd.func11 rfl (by kernel_rfl) (r := .int .i64 r) (fun X => ⟨⟨rfl, rfl⟩, rfl⟩) fun X vs hE hvs hG => ?_
  obtain ⟨v, us, rfl, hv, rfl⟩ := hvs
  have hv : v = errV X.E a0 := hv.1
  have he : errV cfg.E a0 = YtfoejbiifolnnaaDoorN.errW a0 := by cases a0 <;> rfl
  rw [hv, hE, he]
  exact YtfoejbiifolnnaaDoorN.num.calls a0 r X.w (hG _ (List.mem_append_left _ (List.mem_cons_self ..))) h
/-! halter/soft.Div, by hand -/
def soft_Div.f (a0 : Int) (a1 : Int) : Option Int := YtfoejbiifolnnaaDoorF.soft_Div.f a0 a1
def soft_Div.R (r : Int) : Tm := .v (.one (.sc (.int .u64 r)))
theorem soft_Div.fun_ {a0 a1 r : Int} (h : soft_Div.f a0 a1 = some r) : Fun cfg 33 [.one (.sc (.int .u64 a0)), .one (.sc (.int .u64 a1))] [] (soft_Div.R r) [] := by
  refine Fun.of_below (f := 33) (fn := Tryd.f33) Tryd.func33 rfl (by kernel_rfl) (r := .int .u64 r) (fun X => ⟨⟨rfl, rfl⟩, rfl⟩) fun X vs hE hvs hG => ?_
  obtain ⟨v, us, rfl, hv, v2, us2, rfl, hv2, rfl⟩ := hvs
  have hv : v = .int .u64 a0 := hv.1.1
  have hv2 : v2 = .int .u64 a1 := hv2.1.1
  rw [hv, hv2]
  exact YtfoejbiifolnnaaDoorF.soft_Div.calls a0 a1 r X.w h
/-! halter/soft.Cmp, by hand -/
def soft_Cmp.f (a0 : Int) (a1 : Int) : Option Int := YtfoejbiifolnnaaDoorF.soft_Cmp.f a0 a1
def soft_Cmp.R (r : Int) : Tm := .v (.one (.sc (.int .i64 r)))
theorem soft_Cmp.fun_ {a0 a1 r : Int} (h : soft_Cmp.f a0 a1 = some r) : Fun cfg 41 [.one (.sc (.int .u64 a0)), .one (.sc (.int .u64 a1))] [] (soft_Cmp.R r) [] := by
  refine Fun.of_below (f := 41) (fn := Tryd.f41) Tryd.func41 rfl (by kernel_rfl) (r := .int .i64 r) (fun X => ⟨⟨rfl, rfl⟩, rfl⟩) fun X vs hE hvs hG => ?_
  obtain ⟨v, us, rfl, hv, v2, us2, rfl, hv2, rfl⟩ := hvs
  have hv : v = .int .u64 a0 := hv.1.1
  have hv2 : v2 = .int .u64 a1 := hv2.1.1
  rw [hv, hv2]
  exact YtfoejbiifolnnaaDoorF.soft_Cmp.calls a0 a1 r X.w h
/-! math/bits.Add32 -/
def math_bits_Add32.f (a0 : Int) (a1 : Int) (a2 : Int) : Option (Int × Int) :=
  some ((IntKind.wrap .u32 ((IntKind.wrap .u64 ((IntKind.wrap .u64 ((IntKind.wrap .u64 (a0)) + (IntKind.wrap .u64 (a1)))) + (IntKind.wrap .u64 (a2)))))), (IntKind.wrap .u32 ((shr .u64 (IntKind.wrap .u64 ((IntKind.wrap .u64 ((IntKind.wrap .u64 (a0)) + (IntKind.wrap .u64 (a1)))) + (IntKind.wrap .u64 (a2)))) (32 : Int)))))
def math_bits_Add32.R (r : Int × Int) : Tm := .tup [.one (.sc (.int .u32 r.1)), .one (.sc (.int .u32 r.2))]
theorem math_bits_Add32.fun_ {a0 : Int} {a1 : Int} {a2 : Int} {r : Int × Int} (h : math_bits_Add32.f a0 a1 a2 = some r) : Fun cfg 66 [.one (.sc (.int .u32 a0)), .one (.sc (.int .u32 a1)), .one (.sc (.int .u32 a2))] [] (math_bits_Add32.R r) [] := by
  unfold math_bits_Add32.f at h
  refine fun_of_run cfg_ok (f := 66) (fn := Tryd.f66) Tryd.func66 rfl (by kernel_rfl) (rs := [.tmp 6, .tmp 7]) rfl (nt := 22) rfl (l := fin) (k := (.adj [] (.adj [] (.adj [] (.adj [] (.adj [] (.adj [] .nil))))))) (to_goal (q := (True ∧ (True ∧ (True) ∧ (True) ∧ (True) ∧ (True) ∧ (True) ∧ (True ∧ (True) ∧ (True ∧ (0 ≤ (32 : Int)) ∧ (True) ∧ (True ∧ ((True) ∧ (True) ∧ (.tup [.one (.sc (.int .u32 (IntKind.wrap .u32 ((IntKind.wrap .u64 ((IntKind.wrap .u64 ((IntKind.wrap .u64 (a0)) + (IntKind.wrap .u64 (a1)))) + (IntKind.wrap .u64 (a2)))))))), .one (.sc (.int .u32 (IntKind.wrap .u32 ((shr .u64 (IntKind.wrap .u64 ((IntKind.wrap .u64 ((IntKind.wrap .u64 (a0)) + (IntKind.wrap .u64 (a1)))) + (IntKind.wrap .u64 (a2)))) (32 : Int))))))] : Tm) = math_bits_Add32.R r ∧ ([] : List Box) = []))))))) (by kernel_rfl) ?_)
  refine ⟨trivial, ?_⟩
  refine ⟨trivial, ?_⟩
  refine ⟨trivial, ?_⟩
  refine ⟨trivial, ?_⟩
  refine ⟨trivial, ?_⟩
  refine ⟨trivial, ?_⟩
  refine ⟨trivial, ?_⟩
  refine ⟨trivial, ?_⟩
  refine ⟨trivial, ?_⟩
  refine ⟨trivial, ?_⟩
  refine ⟨(by decide), ?_⟩
  refine ⟨trivial, ?_⟩
  refine ⟨trivial, ?_⟩
  obtain rfl := Option.some.inj h
  exact ⟨trivial, trivial, rfl, rfl⟩
/-! halter/word.negative -/
def word_negative.f (a0 : Int) : Option Bool :=
  some (decide ((IntKind.wrap .i32 (a0)) < (0 : Int)))
def word_negative.R (r : Bool) : Tm := .v (.one (.sc (.bool r)))
theorem word_negative.fun_ {a0 : Int} {r : Bool} (h : word_negative.f a0 = some r) : Fun cfg 67 [.one (.sc (.int .u32 a0))] [] (word_negative.R r) [] := by
  unfold word_negative.f at h
  refine fun_of_run cfg_ok (f := 67) (fn := Tryd.f67) Tryd.func67 rfl (by kernel_rfl) (rs := [.tmp 2]) rfl (nt := 6) rfl (l := fin) (k := (.adj [] (.adj [] (.adj [] (.adj [] .nil))))) (to_goal (q := (True ∧ (True ∧ (True) ∧ (True) ∧ (True ∧ ((True) ∧ (True) ∧ (.v (.one (.sc (.bool (decide ((IntKind.wrap .i32 (a0)) < (0 : Int)))))) : Tm) = word_negative.R r ∧ ([] : List Box) = []))))) (by kernel_rfl) ?_)
  refine ⟨trivial, ?_⟩
  refine ⟨trivial, ?_⟩
  refine ⟨trivial, ?_⟩
  refine ⟨trivial, ?_⟩
  refine ⟨trivial, ?_⟩
  obtain rfl := Option.some.inj h
  exact ⟨trivial, trivial, rfl, rfl⟩
/-! halter/word.Add -/
def word_Add.f (a0 : Int) (a1 : Int) (a2 : Bool) : Option (Int × Bool × Bool) :=
  if a2 = true then
    (math_bits_Add32.f a0 a1 (1 : Int)).bind fun t2 =>
    (word_negative.f a0).bind fun t3 =>
    (word_negative.f a1).bind fun t4 =>
    if t3 = t4 then
      (word_negative.f t2.1).bind fun t6 =>
      (word_negative.f a0).bind fun t7 =>
      some (t2.1, (t2.2 == (1 : Int)), (!(t6 == t7)))
    else
      some (t2.1, (t2.2 == (1 : Int)), false)
  else
    (math_bits_Add32.f a0 a1 (0 : Int)).bind fun t8 =>
    (word_negative.f a0).bind fun t9 =>
    (word_negative.f a1).bind fun t10 =>
    if t9 = t10 then
      (word_negative.f t8.1).bind fun t12 =>
      (word_negative.f a0).bind fun t13 =>
      some (t8.1, (t8.2 == (1 : Int)), (!(t12 == t13)))
    else
      some (t8.1, (t8.2 == (1 : Int)), false)
def word_Add.R (r : Int × Bool × Bool) : Tm := .tup [.one (.sc (.int .u32 r.1)), .one (.sc (.bool r.2.1)), .one (.sc (.bool r.2.2))]
theorem word_Add.fun_ {a0 : Int} {a1 : Int} {a2 : Bool} {r : Int × Bool × Bool} (h : word_Add.f a0 a1 a2 = some r) : Fun cfg 43 [.one (.sc (.int .u32 a0)), .one (.sc (.int .u32 a1)), .one (.sc (.bool a2))] [] (word_Add.R r) [] := by
  unfold word_Add.f at h
  refine fun_of_run cfg_ok (f := 43) (fn := Tryd.f43) Tryd.func43 rfl (by kernel_rfl) (rs := [.tmp 6, .tmp 7, .tmp 8]) rfl (nt := 35) rfl (l := fin) (k := (.br (.call true [] (Int × Int) (fun t2 => math_bits_Add32.R t2) (fun t2 => (.call true [] (Bool) (fun t3 => word_negative.R t3) (fun t3 => (.call true [] (Bool) (fun t4 => word_negative.R t4) (fun t4 => (.br (.one true (.call true [] (Bool) (fun t6 => word_negative.R t6) (fun t6 => (.one true (.one true (.call true [] (Bool) (fun t7 => word_negative.R t7) (fun t7 => (.one true (.one true (.adj [] (.adj [] .nil))))))))))) (.one false (.one false (.one false (.one false (.one false (.adj [] (.adj [] .nil)))))))))))))) (.call true [] (Int × Int) (fun t8 => math_bits_Add32.R t8) (fun t8 => (.call true [] (Bool) (fun t9 => word_negative.R t9) (fun t9 => (.call true [] (Bool) (fun t10 => word_negative.R t10) (fun t10 => (.br (.one true (.call true [] (Bool) (fun t12 => word_negative.R t12) (fun t12 => (.one true (.one true (.call true [] (Bool) (fun t13 => word_negative.R t13) (fun t13 => (.one true (.one true (.adj [] (.adj [] .nil))))))))))) (.one false (.one false (.one false (.one false (.one false (.adj [] (.adj [] .nil)))))))))))))))) (to_goal (q := ((a2 = true → (∃ t2 : Int × Int, (Fun cfg 66 [.one (.sc (.int .u32 a0)), .one (.sc (.int .u32 a1)), .one (.sc (.int .u32 (1 : Int)))] [] (math_bits_Add32.R t2) [] ∧ True) ∧ (True) ∧ (∃ t3 : Bool, (Fun cfg 67 [.one (.sc (.int .u32 a0))] [] (word_negative.R t3) [] ∧ True) ∧ (∃ t4 : Bool, (Fun cfg 67 [.one (.sc (.int .u32 a1))] [] (word_negative.R t4) [] ∧ True) ∧ (True) ∧ (((t3 == t4) = true → ((t3 == t4) = true ∧ (∃ t6 : Bool, (Fun cfg 67 [.one (.sc (.int .u32 t2.1))] [] (word_negative.R t6) [] ∧ True) ∧ ((t3 == t4) = true ∧ ((t3 == t4) = true ∧ (∃ t7 : Bool, (Fun cfg 67 [.one (.sc (.int .u32 a0))] [] (word_negative.R t7) [] ∧ True) ∧ ((t3 == t4) = true ∧ (True) ∧ ((t3 == t4) = true ∧ (True ∧ ((True) ∧ (True) ∧ (.tup [.one (.sc (.int .u32 t2.1)), .one (.sc (.bool (t2.2 == (1 : Int)))), .one (.sc (.bool (!(t6 == t7))))] : Tm) = word_Add.R r ∧ ([] : List Box) = [])))))))))) ∧ ((t3 == t4) = false → ((t3 == t4) = false ∧ ((t3 == t4) = false ∧ ((t3 == t4) = false ∧ ((t3 == t4) = false ∧ ((t3 == t4) = false ∧ (True ∧ ((True) ∧ (True) ∧ (.tup [.one (.sc (.int .u32 t2.1)), .one (.sc (.bool (t2.2 == (1 : Int)))), .one (.sc (.bool false))] : Tm) = word_Add.R r ∧ ([] : List Box) = []))))))))))))) ∧ (a2 = false → (∃ t8 : Int × Int, (Fun cfg 66 [.one (.sc (.int .u32 a0)), .one (.sc (.int .u32 a1)), .one (.sc (.int .u32 (0 : Int)))] [] (math_bits_Add32.R t8) [] ∧ True) ∧ (True) ∧ (∃ t9 : Bool, (Fun cfg 67 [.one (.sc (.int .u32 a0))] [] (word_negative.R t9) [] ∧ True) ∧ (∃ t10 : Bool, (Fun cfg 67 [.one (.sc (.int .u32 a1))] [] (word_negative.R t10) [] ∧ True) ∧ (True) ∧ (((t9 == t10) = true → ((t9 == t10) = true ∧ (∃ t12 : Bool, (Fun cfg 67 [.one (.sc (.int .u32 t8.1))] [] (word_negative.R t12) [] ∧ True) ∧ ((t9 == t10) = true ∧ ((t9 == t10) = true ∧ (∃ t13 : Bool, (Fun cfg 67 [.one (.sc (.int .u32 a0))] [] (word_negative.R t13) [] ∧ True) ∧ ((t9 == t10) = true ∧ (True) ∧ ((t9 == t10) = true ∧ (True ∧ ((True) ∧ (True) ∧ (.tup [.one (.sc (.int .u32 t8.1)), .one (.sc (.bool (t8.2 == (1 : Int)))), .one (.sc (.bool (!(t12 == t13))))] : Tm) = word_Add.R r ∧ ([] : List Box) = [])))))))))) ∧ ((t9 == t10) = false → ((t9 == t10) = false ∧ ((t9 == t10) = false ∧ ((t9 == t10) = false ∧ ((t9 == t10) = false ∧ ((t9 == t10) = false ∧ (True ∧ ((True) ∧ (True) ∧ (.tup [.one (.sc (.int .u32 t8.1)), .one (.sc (.bool (t8.2 == (1 : Int)))), .one (.sc (.bool false))] : Tm) = word_Add.R r ∧ ([] : List Box) = []))))))))))))))) (by kernel_rfl) ?_)
  refine ⟨fun b1 => ?_, fun b1 => ?_⟩
  · rw [if_pos b1] at h
    obtain ⟨t2, ht2, h⟩ := of_bind h
    refine ⟨t2, ⟨math_bits_Add32.fun_ ht2, trivial⟩, ?_⟩
    refine ⟨trivial, ?_⟩
    obtain ⟨t3, ht3, h⟩ := of_bind h
    refine ⟨t3, ⟨word_negative.fun_ ht3, trivial⟩, ?_⟩
    obtain ⟨t4, ht4, h⟩ := of_bind h
    refine ⟨t4, ⟨word_negative.fun_ ht4, trivial⟩, ?_⟩
    refine ⟨trivial, ?_⟩
    refine ⟨fun b5 => ?_, fun b5 => ?_⟩
    · rw [if_pos (bb_t b5)] at h
      refine ⟨b5, ?_⟩
      obtain ⟨t6, ht6, h⟩ := of_bind h
      refine ⟨t6, ⟨word_negative.fun_ ht6, trivial⟩, ?_⟩
      refine ⟨b5, ?_⟩
      refine ⟨b5, ?_⟩
      obtain ⟨t7, ht7, h⟩ := of_bind h
      refine ⟨t7, ⟨word_negative.fun_ ht7, trivial⟩, ?_⟩
      refine ⟨b5, ?_⟩
      refine ⟨trivial, ?_⟩
      refine ⟨b5, ?_⟩
      refine ⟨trivial, ?_⟩
      obtain rfl := Option.some.inj h
      exact ⟨trivial, trivial, rfl, rfl⟩
    · rw [if_neg (bb_f b5)] at h
      refine ⟨b5, ?_⟩
      refine ⟨b5, ?_⟩
      refine ⟨b5, ?_⟩
      refine ⟨b5, ?_⟩
      refine ⟨b5, ?_⟩
      refine ⟨trivial, ?_⟩
      obtain rfl := Option.some.inj h
      exact ⟨trivial, trivial, rfl, rfl⟩
  · rw [if_neg (ff b1)] at h
    obtain ⟨t8, ht8, h⟩ := of_bind h
    refine ⟨t8, ⟨math_bits_Add32.fun_ ht8, trivial⟩, ?_⟩
    refine ⟨trivial, ?_⟩
    obtain ⟨t9, ht9, h⟩ := of_bind h
    refine ⟨t9, ⟨word_negative.fun_ ht9, trivial⟩, ?_⟩
    obtain ⟨t10, ht10, h⟩ := of_bind h
    refine ⟨t10, ⟨word_negative.fun_ ht10, trivial⟩, ?_⟩
    refine ⟨trivial, ?_⟩
    refine ⟨fun b11 => ?_, fun b11 => ?_⟩
    · rw [if_pos (bb_t b11)] at h
      refine ⟨b11, ?_⟩
      obtain ⟨t12, ht12, h⟩ := of_bind h
      refine ⟨t12, ⟨word_negative.fun_ ht12, trivial⟩, ?_⟩
      refine ⟨b11, ?_⟩
      refine ⟨b11, ?_⟩
      obtain ⟨t13, ht13, h⟩ := of_bind h
      refine ⟨t13, ⟨word_negative.fun_ ht13, trivial⟩, ?_⟩
      refine ⟨b11, ?_⟩
      refine ⟨trivial, ?_⟩
      refine ⟨b11, ?_⟩
      refine ⟨trivial, ?_⟩
      obtain rfl := Option.some.inj h
      exact ⟨trivial, trivial, rfl, rfl⟩
    · rw [if_neg (bb_f b11)] at h
      refine ⟨b11, ?_⟩
      refine ⟨b11, ?_⟩
      refine ⟨b11, ?_⟩
      refine ⟨b11, ?_⟩
      refine ⟨b11, ?_⟩
      refine ⟨trivial, ?_⟩
      obtain rfl := Option.some.inj h
      exact ⟨trivial, trivial, rfl, rfl⟩
/-! halter/alu.pair -/
def alu_pair.f (a0 : Int) (a1 : Bool) (a2 : Bool) : Option Int :=
  if a0 = (0 : Int) then
    if ¬ (bits .and .u32 a0 (2147483648 : Int)) = (0 : Int) then
      if a1 = true then
        if a2 = true then
          some (bits .or .u32 (bits .or .u32 (bits .or .u32 (bits .or .u32 (0 : Int) (1 : Int)) (2 : Int)) (4 : Int)) (8 : Int))
        else
          some (bits .or .u32 (bits .or .u32 (bits .or .u32 (0 : Int) (1 : Int)) (2 : Int)) (4 : Int))
      else
        if a2 = true then
          some (bits .or .u32 (bits .or .u32 (bits .or .u32 (0 : Int) (1 : Int)) (2 : Int)) (8 : Int))
        else
          some (bits .or .u32 (bits .or .u32 (0 : Int) (1 : Int)) (2 : Int))
    else
      if a1 = true then
        if a2 = true then
          some (bits .or .u32 (bits .or .u32 (bits .or .u32 (0 : Int) (1 : Int)) (4 : Int)) (8 : Int))
        else
          some (bits .or .u32 (bits .or .u32 (0 : Int) (1 : Int)) (4 : Int))
      else
        if a2 = true then
          some (bits .or .u32 (bits .or .u32 (0 : Int) (1 : Int)) (8 : Int))
        else
          some (bits .or .u32 (0 : Int) (1 : Int))
  else
    if ¬ (bits .and .u32 a0 (2147483648 : Int)) = (0 : Int) then
      if a1 = true then
        if a2 = true then
          some (bits .or .u32 (bits .or .u32 (bits .or .u32 (0 : Int) (2 : Int)) (4 : Int)) (8 : Int))
        else
          some (bits .or .u32 (bits .or .u32 (0 : Int) (2 : Int)) (4 : Int))
      else
        if a2 = true then
          some (bits .or .u32 (bits .or .u32 (0 : Int) (2 : Int)) (8 : Int))
        else
          some (bits .or .u32 (0 : Int) (2 : Int))
    else
      if a1 = true then
        if a2 = true then
          some (bits .or .u32 (bits .or .u32 (0 : Int) (4 : Int)) (8 : Int))
        else
          some (bits .or .u32 (0 : Int) (4 : Int))
      else
        if a2 = true then
          some (bits .or .u32 (0 : Int) (8 : Int))
        else
          some (0 : Int)
def alu_pair.R (r : Int) : Tm := .v (.one (.sc (.int .u32 r)))
theorem alu_pair.fun_ {a0 : Int} {a1 : Bool} {a2 : Bool} {r : Int} (h : alu_pair.f a0 a1 a2 = some r) : Fun cfg 19 [.one (.sc (.int .u32 a0)), .one (.sc (.bool a1)), .one (.sc (.bool a2))] [] (alu_pair.R r) [] := by
  unfold alu_pair.f at h
  refine fun_of_run cfg_ok (f := 19) (fn := Tryd.f19) Tryd.func19 rfl (by kernel_rfl) (rs := [.tmp 6]) rfl (nt := 24) rfl (l := fin) (k := (.br (.br (.br (.br (.adj [] (.adj [] (.adj [] (.adj [] .nil)))) (.adj [] (.adj [] (.adj [] (.adj [] .nil))))) (.br (.adj [] (.adj [] (.adj [] (.adj [] .nil)))) (.adj [] (.adj [] (.adj [] (.adj [] .nil)))))) (.br (.br (.adj [] (.adj [] (.adj [] (.adj [] .nil)))) (.adj [] (.adj [] (.adj [] (.adj [] .nil))))) (.br (.adj [] (.adj [] (.adj [] (.adj [] .nil)))) (.adj [] (.adj [] (.adj [] (.adj [] .nil))))))) (.br (.br (.br (.adj [] (.adj [] (.adj [] (.adj [] .nil)))) (.adj [] (.adj [] (.adj [] (.adj [] .nil))))) (.br (.adj [] (.adj [] (.adj [] (.adj [] .nil)))) (.adj [] (.adj [] (.adj [] (.adj [] .nil)))))) (.br (.br (.adj [] (.adj [] (.adj [] (.adj [] .nil)))) (.adj [] (.adj [] (.adj [] (.adj [] .nil))))) (.br (.adj [] (.adj [] (.adj [] (.adj [] .nil)))) (.adj [] (.adj [] (.adj [] (.adj [] .nil))))))))) (to_goal (q := (True) ∧ (((a0 == (0 : Int)) = true → (True) ∧ (True) ∧ (True) ∧ ((((bits .and .u32 a0 (2147483648 : Int)) != (0 : Int)) = true → (True) ∧ ((a1 = true → (True) ∧ ((a2 = true → (True ∧ (True) ∧ (True ∧ (True ∧ ((True) ∧ (True) ∧ (.v (.one (.sc (.int .u32 (bits .or .u32 (bits .or .u32 (bits .or .u32 (bits .or .u32 (0 : Int) (1 : Int)) (2 : Int)) (4 : Int)) (8 : Int))))) : Tm) = alu_pair.R r ∧ ([] : List Box) = []))))) ∧ (a2 = false → (True ∧ (True ∧ (True ∧ ((True) ∧ (True) ∧ (.v (.one (.sc (.int .u32 (bits .or .u32 (bits .or .u32 (bits .or .u32 (0 : Int) (1 : Int)) (2 : Int)) (4 : Int))))) : Tm) = alu_pair.R r ∧ ([] : List Box) = []))))))) ∧ (a1 = false → ((a2 = true → (True ∧ (True) ∧ (True ∧ (True ∧ ((True) ∧ (True) ∧ (.v (.one (.sc (.int .u32 (bits .or .u32 (bits .or .u32 (bits .or .u32 (0 : Int) (1 : Int)) (2 : Int)) (8 : Int))))) : Tm) = alu_pair.R r ∧ ([] : List Box) = []))))) ∧ (a2 = false → (True ∧ (True ∧ (True ∧ ((True) ∧ (True) ∧ (.v (.one (.sc (.int .u32 (bits .or .u32 (bits .or .u32 (0 : Int) (1 : Int)) (2 : Int))))) : Tm) = alu_pair.R r ∧ ([] : List Box) = []))))))))) ∧ (((bits .and .u32 a0 (2147483648 : Int)) != (0 : Int)) = false → ((a1 = true → (True) ∧ ((a2 = true → (True ∧ (True) ∧ (True ∧ (True ∧ ((True) ∧ (True) ∧ (.v (.one (.sc (.int .u32 (bits .or .u32 (bits .or .u32 (bits .or .u32 (0 : Int) (1 : Int)) (4 : Int)) (8 : Int))))) : Tm) = alu_pair.R r ∧ ([] : List Box) = []))))) ∧ (a2 = false → (True ∧ (True ∧ (True ∧ ((True) ∧ (True) ∧ (.v (.one (.sc (.int .u32 (bits .or .u32 (bits .or .u32 (0 : Int) (1 : Int)) (4 : Int))))) : Tm) = alu_pair.R r ∧ ([] : List Box) = []))))))) ∧ (a1 = false → ((a2 = true → (True ∧ (True) ∧ (True ∧ (True ∧ ((True) ∧ (True) ∧ (.v (.one (.sc (.int .u32 (bits .or .u32 (bits .or .u32 (0 : Int) (1 : Int)) (8 : Int))))) : Tm) = alu_pair.R r ∧ ([] : List Box) = []))))) ∧ (a2 = false → (True ∧ (True ∧ (True ∧ ((True) ∧ (True) ∧ (.v (.one (.sc (.int .u32 (bits .or .u32 (0 : Int) (1 : Int))))) : Tm) = alu_pair.R r ∧ ([] : List Box) = []))))))))))) ∧ ((a0 == (0 : Int)) = false → (True) ∧ (True) ∧ ((((bits .and .u32 a0 (2147483648 : Int)) != (0 : Int)) = true → (True) ∧ ((a1 = true → (True) ∧ ((a2 = true → (True ∧ (True) ∧ (True ∧ (True ∧ ((True) ∧ (True) ∧ (.v (.one (.sc (.int .u32 (bits .or .u32 (bits .or .u32 (bits .or .u32 (0 : Int) (2 : Int)) (4 : Int)) (8 : Int))))) : Tm) = alu_pair.R r ∧ ([] : List Box) = []))))) ∧ (a2 = false → (True ∧ (True ∧ (True ∧ ((True) ∧ (True) ∧ (.v (.one (.sc (.int .u32 (bits .or .u32 (bits .or .u32 (0 : Int) (2 : Int)) (4 : Int))))) : Tm) = alu_pair.R r ∧ ([] : List Box) = []))))))) ∧ (a1 = false → ((a2 = true → (True ∧ (True) ∧ (True ∧ (True ∧ ((True) ∧ (True) ∧ (.v (.one (.sc (.int .u32 (bits .or .u32 (bits .or .u32 (0 : Int) (2 : Int)) (8 : Int))))) : Tm) = alu_pair.R r ∧ ([] : List Box) = []))))) ∧ (a2 = false → (True ∧ (True ∧ (True ∧ ((True) ∧ (True) ∧ (.v (.one (.sc (.int .u32 (bits .or .u32 (0 : Int) (2 : Int))))) : Tm) = alu_pair.R r ∧ ([] : List Box) = []))))))))) ∧ (((bits .and .u32 a0 (2147483648 : Int)) != (0 : Int)) = false → ((a1 = true → (True) ∧ ((a2 = true → (True ∧ (True) ∧ (True ∧ (True ∧ ((True) ∧ (True) ∧ (.v (.one (.sc (.int .u32 (bits .or .u32 (bits .or .u32 (0 : Int) (4 : Int)) (8 : Int))))) : Tm) = alu_pair.R r ∧ ([] : List Box) = []))))) ∧ (a2 = false → (True ∧ (True ∧ (True ∧ ((True) ∧ (True) ∧ (.v (.one (.sc (.int .u32 (bits .or .u32 (0 : Int) (4 : Int))))) : Tm) = alu_pair.R r ∧ ([] : List Box) = []))))))) ∧ (a1 = false → ((a2 = true → (True ∧ (True) ∧ (True ∧ (True ∧ ((True) ∧ (True) ∧ (.v (.one (.sc (.int .u32 (bits .or .u32 (0 : Int) (8 : Int))))) : Tm) = alu_pair.R r ∧ ([] : List Box) = []))))) ∧ (a2 = false → (True ∧ (True ∧ (True ∧ ((True) ∧ (True) ∧ (.v (.one (.sc (.int .u32 (0 : Int)))) : Tm) = alu_pair.R r ∧ ([] : List Box) = []))))))))))))) (by kernel_rfl) ?_)
  refine ⟨trivial, ?_⟩
  refine ⟨fun b1 => ?_, fun b1 => ?_⟩
  · rw [if_pos (beq_t b1)] at h
    refine ⟨trivial, ?_⟩
    refine ⟨trivial, ?_⟩
    refine ⟨trivial, ?_⟩
    refine ⟨fun b2 => ?_, fun b2 => ?_⟩
    · rw [if_pos (bne_t b2)] at h
      refine ⟨trivial, ?_⟩
      refine ⟨fun b3 => ?_, fun b3 => ?_⟩
      · rw [if_pos b3] at h
        refine ⟨trivial, ?_⟩
        refine ⟨fun b4 => ?_, fun b4 => ?_⟩
        · rw [if_pos b4] at h
          refine ⟨trivial, ?_⟩
          refine ⟨trivial, ?_⟩
          refine ⟨trivial, ?_⟩
          refine ⟨trivial, ?_⟩
          obtain rfl := Option.some.inj h
          exact ⟨trivial, trivial, rfl, rfl⟩
        · rw [if_neg (ff b4)] at h
          refine ⟨trivial, ?_⟩
          refine ⟨trivial, ?_⟩
          refine ⟨trivial, ?_⟩
          obtain rfl := Option.some.inj h
          exact ⟨trivial, trivial, rfl, rfl⟩
      · rw [if_neg (ff b3)] at h
        refine ⟨fun b5 => ?_, fun b5 => ?_⟩
        · rw [if_pos b5] at h
          refine ⟨trivial, ?_⟩
          refine ⟨trivial, ?_⟩
          refine ⟨trivial, ?_⟩
          refine ⟨trivial, ?_⟩
          obtain rfl := Option.some.inj h
          exact ⟨trivial, trivial, rfl, rfl⟩
        · rw [if_neg (ff b5)] at h
          refine ⟨trivial, ?_⟩
          refine ⟨trivial, ?_⟩
          refine ⟨trivial, ?_⟩
          obtain rfl := Option.some.inj h
          exact ⟨trivial, trivial, rfl, rfl⟩
    · rw [if_neg (not_not_intro (bne_f b2))] at h
      refine ⟨fun b6 => ?_, fun b6 => ?_⟩
      · rw [if_pos b6] at h
        refine ⟨trivial, ?_⟩
        refine ⟨fun b7 => ?_, fun b7 => ?_⟩
        · rw [if_pos b7] at h
          refine ⟨trivial, ?_⟩
          refine ⟨trivial, ?_⟩
          refine ⟨trivial, ?_⟩
          refine ⟨trivial, ?_⟩
          obtain rfl := Option.some.inj h
          exact ⟨trivial, trivial, rfl, rfl⟩
        · rw [if_neg (ff b7)] at h
          refine ⟨trivial, ?_⟩
          refine ⟨trivial, ?_⟩
          refine ⟨trivial, ?_⟩
          obtain rfl := Option.some.inj h
          exact ⟨trivial, trivial, rfl, rfl⟩
      · rw [if_neg (ff b6)] at h
        refine ⟨fun b8 => ?_, fun b8 => ?_⟩
        · rw [if_pos b8] at h
          refine ⟨trivial, ?_⟩
          refine ⟨trivial, ?_⟩
          refine ⟨trivial, ?_⟩
          refine ⟨trivial, ?_⟩
          obtain rfl := Option.some.inj h
          exact ⟨trivial, trivial, rfl, rfl⟩
        · rw [if_neg (ff b8)] at h
          refine ⟨trivial, ?_⟩
          refine ⟨trivial, ?_⟩
          refine ⟨trivial, ?_⟩
          obtain rfl := Option.some.inj h
          exact ⟨trivial, trivial, rfl, rfl⟩
  · rw [if_neg (beq_f b1)] at h
    refine ⟨trivial, ?_⟩
    refine ⟨trivial, ?_⟩
    refine ⟨fun b9 => ?_, fun b9 => ?_⟩
    · rw [if_pos (bne_t b9)] at h
      refine ⟨trivial, ?_⟩
      refine ⟨fun b10 => ?_, fun b10 => ?_⟩
      · rw [if_pos b10] at h
        refine ⟨trivial, ?_⟩
        refine ⟨fun b11 => ?_, fun b11 => ?_⟩
        · rw [if_pos b11] at h
          refine ⟨trivial, ?_⟩
          refine ⟨trivial, ?_⟩
          refine ⟨trivial, ?_⟩
          refine ⟨trivial, ?_⟩
          obtain rfl := Option.some.inj h
          exact ⟨trivial, trivial, rfl, rfl⟩
        · rw [if_neg (ff b11)] at h
          refine ⟨trivial, ?_⟩
          refine ⟨trivial, ?_⟩
          refine ⟨trivial, ?_⟩
          obtain rfl := Option.some.inj h
          exact ⟨trivial, trivial, rfl, rfl⟩
      · rw [if_neg (ff b10)] at h
        refine ⟨fun b12 => ?_, fun b12 => ?_⟩
        · rw [if_pos b12] at h
          refine ⟨trivial, ?_⟩
          refine ⟨trivial, ?_⟩
          refine ⟨trivial, ?_⟩
          refine ⟨trivial, ?_⟩
          obtain rfl := Option.some.inj h
          exact ⟨trivial, trivial, rfl, rfl⟩
        · rw [if_neg (ff b12)] at h
          refine ⟨trivial, ?_⟩
          refine ⟨trivial, ?_⟩
          refine ⟨trivial, ?_⟩
          obtain rfl := Option.some.inj h
          exact ⟨trivial, trivial, rfl, rfl⟩
    · rw [if_neg (not_not_intro (bne_f b9))] at h
      refine ⟨fun b13 => ?_, fun b13 => ?_⟩
      · rw [if_pos b13] at h
        refine ⟨trivial, ?_⟩
        refine ⟨fun b14 => ?_, fun b14 => ?_⟩
        · rw [if_pos b14] at h
          refine ⟨trivial, ?_⟩
          refine ⟨trivial, ?_⟩
          refine ⟨trivial, ?_⟩
          refine ⟨trivial, ?_⟩
          obtain rfl := Option.some.inj h
          exact ⟨trivial, trivial, rfl, rfl⟩
        · rw [if_neg (ff b14)] at h
          refine ⟨trivial, ?_⟩
          refine ⟨trivial, ?_⟩
          refine ⟨trivial, ?_⟩
          obtain rfl := Option.some.inj h
          exact ⟨trivial, trivial, rfl, rfl⟩
      · rw [if_neg (ff b13)] at h
        refine ⟨fun b15 => ?_, fun b15 => ?_⟩
        · rw [if_pos b15] at h
          refine ⟨trivial, ?_⟩
          refine ⟨trivial, ?_⟩
          refine ⟨trivial, ?_⟩
          refine ⟨trivial, ?_⟩
          obtain rfl := Option.some.inj h
          exact ⟨trivial, trivial, rfl, rfl⟩
        · rw [if_neg (ff b15)] at h
          refine ⟨trivial, ?_⟩
          refine ⟨trivial, ?_⟩
          refine ⟨trivial, ?_⟩
          obtain rfl := Option.some.inj h
          exact ⟨trivial, trivial, rfl, rfl⟩
/-! math/bits.Mul32 -/
def math_bits_Mul32.f (a0 : Int) (a1 : Int) : Option (Int × Int) :=
  some ((IntKind.wrap .u32 ((shr .u64 (IntKind.wrap .u64 ((IntKind.wrap .u64 (a0)) * (IntKind.wrap .u64 (a1)))) (32 : Int)))), (IntKind.wrap .u32 ((IntKind.wrap .u64 ((IntKind.wrap .u64 (a0)) * (IntKind.wrap .u64 (a1)))))))
def math_bits_Mul32.R (r : Int × Int) : Tm := .tup [.one (.sc (.int .u32 r.1)), .one (.sc (.int .u32 r.2))]
theorem math_bits_Mul32.fun_ {a0 : Int} {a1 : Int} {r : Int × Int} (h : math_bits_Mul32.f a0 a1 = some r) : Fun cfg 68 [.one (.sc (.int .u32 a0)), .one (.sc (.int .u32 a1))] [] (math_bits_Mul32.R r) [] := by
  unfold math_bits_Mul32.f at h
  refine fun_of_run cfg_ok (f := 68) (fn := Tryd.f68) Tryd.func68 rfl (by kernel_rfl) (rs := [.tmp 4, .tmp 5]) rfl (nt := 17) rfl (l := fin) (k := (.adj [] (.adj [] (.adj [] (.adj [] (.adj [] .nil)))))) (to_goal (q := (True ∧ (True ∧ (True) ∧ (True) ∧ (True) ∧ (True ∧ (0 ≤ (32 : Int)) ∧ (True) ∧ (True) ∧ (True ∧ ((True) ∧ (True) ∧ (.tup [.one (.sc (.int .u32 (IntKind.wrap .u32 ((shr .u64 (IntKind.wrap .u64 ((IntKind.wrap .u64 (a0)) * (IntKind.wrap .u64 (a1)))) (32 : Int)))))), .one (.sc (.int .u32 (IntKind.wrap .u32 ((IntKind.wrap .u64 ((IntKind.wrap .u64 (a0)) * (IntKind.wrap .u64 (a1))))))))] : Tm) = math_bits_Mul32.R r ∧ ([] : List Box) = [])))))) (by kernel_rfl) ?_)
  refine ⟨trivial, ?_⟩
  refine ⟨trivial, ?_⟩
  refine ⟨trivial, ?_⟩
  refine ⟨trivial, ?_⟩
  refine ⟨trivial, ?_⟩
  refine ⟨trivial, ?_⟩
  refine ⟨(by decide), ?_⟩
  refine ⟨trivial, ?_⟩
  refine ⟨trivial, ?_⟩
  refine ⟨trivial, ?_⟩
  obtain rfl := Option.some.inj h
  exact ⟨trivial, trivial, rfl, rfl⟩
/-! halter/word.Mul -/
def word_Mul.f (a0 : Int) (a1 : Int) : Option (Int × Int) :=
  (math_bits_Mul32.f a0 a1).bind fun t1 =>
  some (t1.2, t1.1)
def word_Mul.R (r : Int × Int) : Tm := .tup [.one (.sc (.int .u32 r.1)), .one (.sc (.int .u32 r.2))]
theorem word_Mul.fun_ {a0 : Int} {a1 : Int} {r : Int × Int} (h : word_Mul.f a0 a1 = some r) : Fun cfg 44 [.one (.sc (.int .u32 a0)), .one (.sc (.int .u32 a1))] [] (word_Mul.R r) [] := by
  unfold word_Mul.f at h
  refine fun_of_run cfg_ok (f := 44) (fn := Tryd.f44) Tryd.func44 rfl (by kernel_rfl) (rs := [.tmp 4, .tmp 5]) rfl (nt := 16) rfl (l := fin) (k := (.call true [] (Int × Int) (fun t1 => math_bits_Mul32.R t1) (fun t1 => (.adj [] (.adj [] (.adj [] .nil)))))) (to_goal (q := (∃ t1 : Int × Int, (Fun cfg 68 [.one (.sc (.int .u32 a0)), .one (.sc (.int .u32 a1))] [] (math_bits_Mul32.R t1) [] ∧ True) ∧ (True ∧ (True ∧ ((True) ∧ (True) ∧ (.tup [.one (.sc (.int .u32 t1.2)), .one (.sc (.int .u32 t1.1))] : Tm) = word_Mul.R r ∧ ([] : List Box) = []))))) (by kernel_rfl) ?_)
  obtain ⟨t1, ht1, h⟩ := of_bind h
  refine ⟨t1, ⟨math_bits_Mul32.fun_ ht1, trivial⟩, ?_⟩
  refine ⟨trivial, ?_⟩
  refine ⟨trivial, ?_⟩
  obtain rfl := Option.some.inj h
  exact ⟨trivial, trivial, rfl, rfl⟩
/-! math/bits.Sub32 -/
def math_bits_Sub32.f (a0 : Int) (a1 : Int) (a2 : Int) : Option (Int × Int) :=
  some ((IntKind.wrap .u32 ((IntKind.wrap .u32 (a0 - a1)) - a2)), (shr .u32 (bits .or .u32 (bits .and .u32 (bits .xor .u32 (IntKind.max .u32) a0) a1) (bits .and .u32 (bits .xor .u32 (IntKind.max .u32) (bits .xor .u32 a0 a1)) (IntKind.wrap .u32 ((IntKind.wrap .u32 (a0 - a1)) - a2)))) (31 : Int)))
def math_bits_Sub32.R (r : Int × Int) : Tm := .tup [.one (.sc (.int .u32 r.1)), .one (.sc (.int .u32 r.2))]
theorem math_bits_Sub32.fun_ {a0 : Int} {a1 : Int} {a2 : Int} {r : Int × Int} (h : math_bits_Sub32.f a0 a1 a2 = some r) : Fun cfg 69 [.one (.sc (.int .u32 a0)), .one (.sc (.int .u32 a1)), .one (.sc (.int .u32 a2))] [] (math_bits_Sub32.R r) [] := by
  unfold math_bits_Sub32.f at h
  refine fun_of_run cfg_ok (f := 69) (fn := Tryd.f69) Tryd.func69 rfl (by kernel_rfl) (rs := [.tmp 6, .tmp 7]) rfl (nt := 25) rfl (l := fin) (k := (.adj [] (.adj [] (.adj [] (.adj [] (.adj [] .nil)))))) (to_goal (q := (True ∧ (True ∧ (True) ∧ (True) ∧ (True ∧ (True) ∧ (True) ∧ (True) ∧ (True) ∧ (0 ≤ (31 : Int)) ∧ (True ∧ ((True) ∧ (True) ∧ (.tup [.one (.sc (.int .u32 (IntKind.wrap .u32 ((IntKind.wrap .u32 (a0 - a1)) - a2)))), .one (.sc (.int .u32 (shr .u32 (bits .or .u32 (bits .and .u32 (bits .xor .u32 (IntKind.max .u32) a0) a1) (bits .and .u32 (bits .xor .u32 (IntKind.max .u32) (bits .xor .u32 a0 a1)) (IntKind.wrap .u32 ((IntKind.wrap .u32 (a0 - a1)) - a2)))) (31 : Int))))] : Tm) = math_bits_Sub32.R r ∧ ([] : List Box) = [])))))) (by kernel_rfl) ?_)
  refine ⟨trivial, ?_⟩
  refine ⟨trivial, ?_⟩
  refine ⟨trivial, ?_⟩
  refine ⟨trivial, ?_⟩
  refine ⟨trivial, ?_⟩
  refine ⟨trivial, ?_⟩
  refine ⟨trivial, ?_⟩
  refine ⟨trivial, ?_⟩
  refine ⟨trivial, ?_⟩
  refine ⟨(by decide), ?_⟩
  refine ⟨trivial, ?_⟩
  obtain rfl := Option.some.inj h
  exact ⟨trivial, trivial, rfl, rfl⟩
/-! halter/word.Sub -/
def word_Sub.f (a0 : Int) (a1 : Int) : Option (Int × Bool × Bool) :=
  (math_bits_Sub32.f a0 a1 (0 : Int)).bind fun t1 =>
  (word_negative.f a0).bind fun t2 =>
  (word_negative.f a1).bind fun t3 =>
  if ¬ (t2 = t3) then
    (word_negative.f t1.1).bind fun t5 =>
    (word_negative.f a0).bind fun t6 =>
    some (t1.1, (t1.2 == (1 : Int)), (!(t5 == t6)))
  else
    some (t1.1, (t1.2 == (1 : Int)), false)
def word_Sub.R (r : Int × Bool × Bool) : Tm := .tup [.one (.sc (.int .u32 r.1)), .one (.sc (.bool r.2.1)), .one (.sc (.bool r.2.2))]
theorem word_Sub.fun_ {a0 : Int} {a1 : Int} {r : Int × Bool × Bool} (h : word_Sub.f a0 a1 = some r) : Fun cfg 45 [.one (.sc (.int .u32 a0)), .one (.sc (.int .u32 a1))] [] (word_Sub.R r) [] := by
  unfold word_Sub.f at h
  refine fun_of_run cfg_ok (f := 45) (fn := Tryd.f45) Tryd.func45 rfl (by kernel_rfl) (rs := [.tmp 4, .tmp 5, .tmp 6]) rfl (nt := 30) rfl (l := fin) (k := (.call true [] (Int × Int) (fun t1 => math_bits_Sub32.R t1) (fun t1 => (.call true [] (Bool) (fun t2 => word_negative.R t2) (fun t2 => (.call true [] (Bool) (fun t3 => word_negative.R t3) (fun t3 => (.br (.one true (.call true [] (Bool) (fun t5 => word_negative.R t5) (fun t5 => (.one true (.one true (.call true [] (Bool) (fun t6 => word_negative.R t6) (fun t6 => (.one true (.one true (.adj [] (.adj [] .nil))))))))))) (.one false (.one false (.one false (.one false (.one false (.adj [] (.adj [] .nil))))))))))))))) (to_goal (q := (∃ t1 : Int × Int, (Fun cfg 69 [.one (.sc (.int .u32 a0)), .one (.sc (.int .u32 a1)), .one (.sc (.int .u32 (0 : Int)))] [] (math_bits_Sub32.R t1) [] ∧ True) ∧ (True) ∧ (∃ t2 : Bool, (Fun cfg 67 [.one (.sc (.int .u32 a0))] [] (word_negative.R t2) [] ∧ True) ∧ (∃ t3 : Bool, (Fun cfg 67 [.one (.sc (.int .u32 a1))] [] (word_negative.R t3) [] ∧ True) ∧ (True) ∧ (((!(t2 == t3)) = true → ((!(t2 == t3)) = true ∧ (∃ t5 : Bool, (Fun cfg 67 [.one (.sc (.int .u32 t1.1))] [] (word_negative.R t5) [] ∧ True) ∧ ((!(t2 == t3)) = true ∧ ((!(t2 == t3)) = true ∧ (∃ t6 : Bool, (Fun cfg 67 [.one (.sc (.int .u32 a0))] [] (word_negative.R t6) [] ∧ True) ∧ ((!(t2 == t3)) = true ∧ (True) ∧ ((!(t2 == t3)) = true ∧ (True ∧ ((True) ∧ (True) ∧ (.tup [.one (.sc (.int .u32 t1.1)), .one (.sc (.bool (t1.2 == (1 : Int)))), .one (.sc (.bool (!(t5 == t6))))] : Tm) = word_Sub.R r ∧ ([] : List Box) = [])))))))))) ∧ ((!(t2 == t3)) = false → ((!(t2 == t3)) = false ∧ ((!(t2 == t3)) = false ∧ ((!(t2 == t3)) = false ∧ ((!(t2 == t3)) = false ∧ ((!(t2 == t3)) = false ∧ (True ∧ ((True) ∧ (True) ∧ (.tup [.one (.sc (.int .u32 t1.1)), .one (.sc (.bool (t1.2 == (1 : Int)))), .one (.sc (.bool false))] : Tm) = word_Sub.R r ∧ ([] : List Box) = []))))))))))))) (by kernel_rfl) ?_)
  obtain ⟨t1, ht1, h⟩ := of_bind h
  refine ⟨t1, ⟨math_bits_Sub32.fun_ ht1, trivial⟩, ?_⟩
  refine ⟨trivial, ?_⟩
  obtain ⟨t2, ht2, h⟩ := of_bind h
  refine ⟨t2, ⟨word_negative.fun_ ht2, trivial⟩, ?_⟩
  obtain ⟨t3, ht3, h⟩ := of_bind h
  refine ⟨t3, ⟨word_negative.fun_ ht3, trivial⟩, ?_⟩
  refine ⟨trivial, ?_⟩
  refine ⟨fun b4 => ?_, fun b4 => ?_⟩
  · rw [if_pos (bb_f (not_t b4))] at h
    refine ⟨b4, ?_⟩
    obtain ⟨t5, ht5, h⟩ := of_bind h
    refine ⟨t5, ⟨word_negative.fun_ ht5, trivial⟩, ?_⟩
    refine ⟨b4, ?_⟩
    refine ⟨b4, ?_⟩
    obtain ⟨t6, ht6, h⟩ := of_bind h
    refine ⟨t6, ⟨word_negative.fun_ ht6, trivial⟩, ?_⟩
    refine ⟨b4, ?_⟩
    refine ⟨trivial, ?_⟩
    refine ⟨b4, ?_⟩
    refine ⟨trivial, ?_⟩
    obtain rfl := Option.some.inj h
    exact ⟨trivial, trivial, rfl, rfl⟩
  · rw [if_neg (not_not_intro (bb_t (not_f b4)))] at h
    refine ⟨b4, ?_⟩
    refine ⟨b4, ?_⟩
    refine ⟨b4, ?_⟩
    refine ⟨b4, ?_⟩
    refine ⟨b4, ?_⟩
    refine ⟨trivial, ?_⟩
    obtain rfl := Option.some.inj h
    exact ⟨trivial, trivial, rfl, rfl⟩
/-! halter/alu.sums -/
def alu_sums.f (a0 : Int) (a1 : Int) (a2 : Int) : Option (Int × Int) :=
  if a0 = (4 : Int) then
    (word_Add.f a1 a2 false).bind fun t2 =>
    (alu_pair.f t2.1 t2.2.1 t2.2.2).bind fun t3 =>
    some (t2.1, t3)
  else
    if a0 = (6 : Int) then
      (word_Mul.f a1 a2).bind fun t5 =>
      (alu_pair.f t5.1 (t5.2 != (0 : Int)) false).bind fun t6 =>
      some (t5.1, t6)
    else
      (word_Sub.f a1 a2).bind fun t7 =>
      if a0 = (16 : Int) then
        (alu_pair.f t7.1 t7.2.1 t7.2.2).bind fun t9 =>
        some (a1, t9)
      else
        (alu_pair.f t7.1 t7.2.1 t7.2.2).bind fun t10 =>
        some (t7.1, t10)
def alu_sums.R (r : Int × Int) : Tm := .tup [.one (.sc (.int .u32 r.1)), .one (.sc (.int .u32 r.2))]
theorem alu_sums.fun_ {a0 : Int} {a1 : Int} {a2 : Int} {r : Int × Int} (h : alu_sums.f a0 a1 a2 = some r) : Fun cfg 17 [.one (.sc (.int .i64 a0)), .one (.sc (.int .u32 a1)), .one (.sc (.int .u32 a2))] [] (alu_sums.R r) [] := by
  unfold alu_sums.f at h
  refine fun_of_run cfg_ok (f := 17) (fn := Tryd.f17) Tryd.func17 rfl (by kernel_rfl) (rs := [.tmp 6, .tmp 7]) rfl (nt := 63) rfl (l := fin) (k := (.br (.call true [] (Int × Bool × Bool) (fun t2 => word_Add.R t2) (fun t2 => (.call true [] (Int) (fun t3 => alu_pair.R t3) (fun t3 => (.adj [] (.adj [] .nil)))))) (.br (.call true [] (Int × Int) (fun t5 => word_Mul.R t5) (fun t5 => (.call true [] (Int) (fun t6 => alu_pair.R t6) (fun t6 => (.adj [] (.adj [] .nil)))))) (.call true [] (Int × Bool × Bool) (fun t7 => word_Sub.R t7) (fun t7 => (.br (.call true [] (Int) (fun t9 => alu_pair.R t9) (fun t9 => (.adj [] (.adj [] .nil)))) (.call true [] (Int) (fun t10 => alu_pair.R t10) (fun t10 => (.adj [] (.adj [] .nil)))))))))) (to_goal (q := (True) ∧ (((a0 == (4 : Int)) = true → (∃ t2 : Int × Bool × Bool, (Fun cfg 43 [.one (.sc (.int .u32 a1)), .one (.sc (.int .u32 a2)), .one (.sc (.bool false))] [] (word_Add.R t2) [] ∧ True) ∧ (∃ t3 : Int, (Fun cfg 19 [.one (.sc (.int .u32 t2.1)), .one (.sc (.bool t2.2.1)), .one (.sc (.bool (z2 t2)))] [] (alu_pair.R t3) [] ∧ True) ∧ (True ∧ ((True) ∧ (True) ∧ (.tup [.one (.sc (.int .u32 t2.1)), .one (.sc (.int .u32 t3))] : Tm) = alu_sums.R r ∧ ([] : List Box) = []))))) ∧ ((a0 == (4 : Int)) = false → (True) ∧ (((a0 == (6 : Int)) = true → (∃ t5 : Int × Int, (Fun cfg 44 [.one (.sc (.int .u32 a1)), .one (.sc (.int .u32 a2))] [] (word_Mul.R t5) [] ∧ True) ∧ (True) ∧ (∃ t6 : Int, (Fun cfg 19 [.one (.sc (.int .u32 t5.1)), .one (.sc (.bool (t5.2 != (0 : Int)))), .one (.sc (.bool false))] [] (alu_pair.R t6) [] ∧ True) ∧ (True ∧ ((True) ∧ (True) ∧ (.tup [.one (.sc (.int .u32 t5.1)), .one (.sc (.int .u32 t6))] : Tm) = alu_sums.R r ∧ ([] : List Box) = []))))) ∧ ((a0 == (6 : Int)) = false → (∃ t7 : Int × Bool × Bool, (Fun cfg 45 [.one (.sc (.int .u32 a1)), .one (.sc (.int .u32 a2))] [] (word_Sub.R t7) [] ∧ True) ∧ (True) ∧ (((a0 == (16 : Int)) = true → (∃ t9 : Int, (Fun cfg 19 [.one (.sc (.int .u32 t7.1)), .one (.sc (.bool t7.2.1)), .one (.sc (.bool (z2 t7)))] [] (alu_pair.R t9) [] ∧ True) ∧ (True ∧ ((True) ∧ (True) ∧ (.tup [.one (.sc (.int .u32 a1)), .one (.sc (.int .u32 t9))] : Tm) = alu_sums.R r ∧ ([] : List Box) = [])))) ∧ ((a0 == (16 : Int)) = false → (∃ t10 : Int, (Fun cfg 19 [.one (.sc (.int .u32 t7.1)), .one (.sc (.bool t7.2.1)), .one (.sc (.bool (z2 t7)))] [] (alu_pair.R t10) [] ∧ True) ∧ (True ∧ ((True) ∧ (True) ∧ (.tup [.one (.sc (.int .u32 t7.1)), .one (.sc (.int .u32 t10))] : Tm) = alu_sums.R r ∧ ([] : List Box) = []))))))))))) (by kernel_rfl) ?_)
  refine ⟨trivial, ?_⟩
  refine ⟨fun b1 => ?_, fun b1 => ?_⟩
  · rw [if_pos (beq_t b1)] at h
    obtain ⟨t2, ht2, h⟩ := of_bind h
    refine ⟨t2, ⟨word_Add.fun_ ht2, trivial⟩, ?_⟩
    obtain ⟨t3, ht3, h⟩ := of_bind h
    refine ⟨t3, ⟨alu_pair.fun_ ht3, trivial⟩, ?_⟩
    refine ⟨trivial, ?_⟩
    obtain rfl := Option.some.inj h
    exact ⟨trivial, trivial, rfl, rfl⟩
  · rw [if_neg (beq_f b1)] at h
    refine ⟨trivial, ?_⟩
    refine ⟨fun b4 => ?_, fun b4 => ?_⟩
    · rw [if_pos (beq_t b4)] at h
      obtain ⟨t5, ht5, h⟩ := of_bind h
      refine ⟨t5, ⟨word_Mul.fun_ ht5, trivial⟩, ?_⟩
      refine ⟨trivial, ?_⟩
      obtain ⟨t6, ht6, h⟩ := of_bind h
      refine ⟨t6, ⟨alu_pair.fun_ ht6, trivial⟩, ?_⟩
      refine ⟨trivial, ?_⟩
      obtain rfl := Option.some.inj h
      exact ⟨trivial, trivial, rfl, rfl⟩
    · rw [if_neg (beq_f b4)] at h
      obtain ⟨t7, ht7, h⟩ := of_bind h
      refine ⟨t7, ⟨word_Sub.fun_ ht7, trivial⟩, ?_⟩
      refine ⟨trivial, ?_⟩
      refine ⟨fun b8 => ?_, fun b8 => ?_⟩
      · rw [if_pos (beq_t b8)] at h
        obtain ⟨t9, ht9, h⟩ := of_bind h
        refine ⟨t9, ⟨alu_pair.fun_ ht9, trivial⟩, ?_⟩
        refine ⟨trivial, ?_⟩
        obtain rfl := Option.some.inj h
        exact ⟨trivial, trivial, rfl, rfl⟩
      · rw [if_neg (beq_f b8)] at h
        obtain ⟨t10, ht10, h⟩ := of_bind h
        refine ⟨t10, ⟨alu_pair.fun_ ht10, trivial⟩, ?_⟩
        refine ⟨trivial, ?_⟩
        obtain rfl := Option.some.inj h
        exact ⟨trivial, trivial, rfl, rfl⟩
/-! halter/word.Div -/
def word_Div.f (a0 : Int) (a1 : Int) : Option (Int × Int × (Option Int)) :=
  if a1 = (0 : Int) then
    some ((0 : Int), (0 : Int), (some (22 : Int)))
  else
    if a1 ≠ 0 then
      if a1 ≠ 0 then
        some ((IntKind.wrap .u32 (Int.tdiv a0 a1)), (Int.tmod a0 a1), none)
      else none
    else none
def word_Div.R (r : Int × Int × (Option Int)) : Tm := .tup [.one (.sc (.int .u32 r.1)), .one (.sc (.int .u32 r.2.1)), .one (.err r.2.2)]
theorem word_Div.fun_ {a0 : Int} {a1 : Int} {r : Int × Int × (Option Int)} (h : word_Div.f a0 a1 = some r) : Fun cfg 46 [.one (.sc (.int .u32 a0)), .one (.sc (.int .u32 a1))] [] (word_Div.R r) [] := by
  unfold word_Div.f at h
  refine fun_of_run cfg_ok (f := 46) (fn := Tryd.f46) Tryd.func46 rfl (by kernel_rfl) (rs := [.tmp 4, .tmp 5, .tmp 6]) rfl (nt := 16) rfl (l := fin) (k := (.br (.adj [] (.adj [] (.adj [] .nil))) (.dr [(0, dN), (1, dN), (2, dN), (3, dN), (4, dN), (5, dN), (6, dN), (7, dN), (8, dN)] (.adj [] (.adj [] .nil))))) (to_goal (q := (True) ∧ (((a1 == (0 : Int)) = true → (True ∧ (True ∧ ((True) ∧ (True) ∧ (.tup [.one (.sc (.int .u32 (0 : Int))), .one (.sc (.int .u32 (0 : Int))), .one (.err (some (22 : Int)))] : Tm) = word_Div.R r ∧ ([] : List Box) = [])))) ∧ ((a1 == (0 : Int)) = false → (a1 ≠ 0) ∧ (a1 ≠ 0) ∧ (True ∧ ((True) ∧ (True) ∧ (.tup [.one (.sc (.int .u32 (IntKind.wrap .u32 (Int.tdiv a0 a1)))), .one (.sc (.int .u32 (Int.tmod a0 a1))), .one (.err none)] : Tm) = word_Div.R r ∧ ([] : List Box) = []))))) (by kernel_rfl) ?_)
  refine ⟨trivial, ?_⟩
  refine ⟨fun b1 => ?_, fun b1 => ?_⟩
  · rw [if_pos (beq_t b1)] at h
    refine ⟨trivial, ?_⟩
    refine ⟨trivial, ?_⟩
    obtain rfl := Option.some.inj h
    exact ⟨trivial, trivial, rfl, rfl⟩
  · rw [if_neg (beq_f b1)] at h
    obtain ⟨g2, h⟩ := of_guard h
    obtain ⟨g3, h⟩ := of_guard h
    refine ⟨g2, g3, ?_⟩
    refine ⟨trivial, ?_⟩
    obtain rfl := Option.some.inj h
    exact ⟨trivial, trivial, rfl, rfl⟩
/-! halter/alu.parts -/
def alu_parts.f (a0 : Int) (a1 : Int) (a2 : Int) : Option (Int × (Option Int)) :=
  (word_Div.f a1 a2).bind fun t1 =>
  if ¬ (t1.2.2 = none) then
    some ((0 : Int), (some (14 : Int)))
  else
    if a0 = (8 : Int) then
      some (t1.2.1, none)
    else
      some (t1.1, none)
def alu_parts.R (r : Int × (Option Int)) : Tm := .tup [.one (.sc (.int .u32 r.1)), .one (.err r.2)]
theorem alu_parts.fun_ {a0 : Int} {a1 : Int} {a2 : Int} {r : Int × (Option Int)} (h : alu_parts.f a0 a1 a2 = some r) : Fun cfg 18 [.one (.sc (.int .i64 a0)), .one (.sc (.int .u32 a1)), .one (.sc (.int .u32 a2))] [] (alu_parts.R r) [] := by
  unfold alu_parts.f at h
  refine fun_of_run cfg_ok (f := 18) (fn := Tryd.f18) Tryd.func18 rfl (by kernel_rfl) (rs := [.tmp 6, .tmp 7]) rfl (nt := 27) rfl (l := fin) (k := (.call true [] (Int × Int × (Option Int)) (fun t1 => word_Div.R t1) (fun t1 => (.br (.adj [] (.adj [] (.adj [] .nil))) (.br (.adj [] (.adj [] (.adj [] .nil))) (.adj [] (.adj [] (.adj [] (.adj [] .nil))))))))) (to_goal (q := (∃ t1 : Int × Int × (Option Int), (Fun cfg 46 [.one (.sc (.int .u32 a1)), .one (.sc (.int .u32 a2))] [] (word_Div.R t1) [] ∧ True) ∧ (True) ∧ (((!(Option.isNone (z2 t1))) = true → (True ∧ (True ∧ ((True) ∧ (True) ∧ (.tup [.one (.sc (.int .u32 (0 : Int))), .one (.err (some (14 : Int)))] : Tm) = alu_parts.R r ∧ ([] : List Box) = [])))) ∧ ((!(Option.isNone (z2 t1))) = false → (True) ∧ (((a0 == (8 : Int)) = true → (True ∧ (True ∧ ((True) ∧ (True) ∧ (.tup [.one (.sc (.int .u32 t1.2.1)), .one (.err none)] : Tm) = alu_parts.R r ∧ ([] : List Box) = [])))) ∧ ((a0 == (8 : Int)) = false → (True ∧ (True ∧ (True ∧ ((True) ∧ (True) ∧ (.tup [.one (.sc (.int .u32 t1.1)), .one (.err none)] : Tm) = alu_parts.R r ∧ ([] : List Box) = [])))))))))) (by kernel_rfl) ?_)
  obtain ⟨t1, ht1, h⟩ := of_bind h
  refine ⟨t1, ⟨word_Div.fun_ ht1, trivial⟩, ?_⟩
  refine ⟨trivial, ?_⟩
  refine ⟨fun b2 => ?_, fun b2 => ?_⟩
  · rw [if_pos (none_f (not_t b2))] at h
    refine ⟨trivial, ?_⟩
    refine ⟨trivial, ?_⟩
    obtain rfl := Option.some.inj h
    exact ⟨trivial, trivial, rfl, rfl⟩
  · rw [if_neg (not_not_intro (none_t (not_f b2)))] at h
    refine ⟨trivial, ?_⟩
    refine ⟨fun b3 => ?_, fun b3 => ?_⟩
    · rw [if_pos (beq_t b3)] at h
      refine ⟨trivial, ?_⟩
      refine ⟨trivial, ?_⟩
      obtain rfl := Option.some.inj h
      exact ⟨trivial, trivial, rfl, rfl⟩
    · rw [if_neg (beq_f b3)] at h
      refine ⟨trivial, ?_⟩
      refine ⟨trivial, ?_⟩
      refine ⟨trivial, ?_⟩
      obtain rfl := Option.some.inj h
      exact ⟨trivial, trivial, rfl, rfl⟩
/-! halter/word.Shift -/
def word_Shift.f (a0 : Int) (a1 : Int) : Option Int :=
  if a1 < (0 : Int) then
    if 0 ≤ (Int.tmod (IntKind.wrap .u64 ((IntKind.wrap .i64 (0 - a1)))) (32 : Int)) then
      some (shr .u32 a0 (Int.tmod (IntKind.wrap .u64 ((IntKind.wrap .i64 (0 - a1)))) (32 : Int)))
    else none
  else
    if 0 ≤ (Int.tmod (IntKind.wrap .u64 (a1)) (32 : Int)) then
      some (shl .u32 a0 (Int.tmod (IntKind.wrap .u64 (a1)) (32 : Int)))
    else none
def word_Shift.R (r : Int) : Tm := .v (.one (.sc (.int .u32 r)))
theorem word_Shift.fun_ {a0 : Int} {a1 : Int} {r : Int} (h : word_Shift.f a0 a1 = some r) : Fun cfg 47 [.one (.sc (.int .u32 a0)), .one (.sc (.int .i64 a1))] [] (word_Shift.R r) [] := by
  unfold word_Shift.f at h
  refine fun_of_run cfg_ok (f := 47) (fn := Tryd.f47) Tryd.func47 rfl (by kernel_rfl) (rs := [.tmp 4]) rfl (nt := 18) rfl (l := fin) (k := (.br (.adj [] (.adj [] (.adj [] .nil))) (.adj [] (.adj [] (.adj [] (.adj [] .nil)))))) (to_goal (q := (True) ∧ (((decide (a1 < (0 : Int))) = true → (True ∧ (True) ∧ ((32 : Int) ≠ 0) ∧ (0 ≤ (Int.tmod (IntKind.wrap .u64 ((IntKind.wrap .i64 (0 - a1)))) (32 : Int))) ∧ (True ∧ ((True) ∧ (True) ∧ (.v (.one (.sc (.int .u32 (shr .u32 a0 (Int.tmod (IntKind.wrap .u64 ((IntKind.wrap .i64 (0 - a1)))) (32 : Int)))))) : Tm) = word_Shift.R r ∧ ([] : List Box) = [])))) ∧ ((decide (a1 < (0 : Int))) = false → (True ∧ (True ∧ (True) ∧ ((32 : Int) ≠ 0) ∧ (0 ≤ (Int.tmod (IntKind.wrap .u64 (a1)) (32 : Int))) ∧ (True ∧ ((True) ∧ (True) ∧ (.v (.one (.sc (.int .u32 (shl .u32 a0 (Int.tmod (IntKind.wrap .u64 (a1)) (32 : Int)))))) : Tm) = word_Shift.R r ∧ ([] : List Box) = []))))))) (by kernel_rfl) ?_)
  refine ⟨trivial, ?_⟩
  refine ⟨fun b1 => ?_, fun b1 => ?_⟩
  · rw [if_pos (of_decide_eq_true b1)] at h
    refine ⟨trivial, ?_⟩
    refine ⟨trivial, ?_⟩
    refine ⟨(by decide), ?_⟩
    obtain ⟨g2, h⟩ := of_guard h
    refine ⟨g2, ?_⟩
    refine ⟨trivial, ?_⟩
    obtain rfl := Option.some.inj h
    exact ⟨trivial, trivial, rfl, rfl⟩
  · rw [if_neg (of_decide_eq_false b1)] at h
    refine ⟨trivial, ?_⟩
    refine ⟨trivial, ?_⟩
    refine ⟨trivial, ?_⟩
    refine ⟨(by decide), ?_⟩
    obtain ⟨g3, h⟩ := of_guard h
    refine ⟨g3, ?_⟩
    refine ⟨trivial, ?_⟩
    obtain rfl := Option.some.inj h
    exact ⟨trivial, trivial, rfl, rfl⟩
/-! halter/word.Sar -/
def word_Sar.f (a0 : Int) (a1 : Int) : Option Int :=
  if 0 ≤ (Int.tmod (IntKind.wrap .u64 (a1)) (32 : Int)) then
    some (IntKind.wrap .u32 ((shr .i32 (IntKind.wrap .i32 (a0)) (Int.tmod (IntKind.wrap .u64 (a1)) (32 : Int)))))
  else none
def word_Sar.R (r : Int) : Tm := .v (.one (.sc (.int .u32 r)))
theorem word_Sar.fun_ {a0 : Int} {a1 : Int} {r : Int} (h : word_Sar.f a0 a1 = some r) : Fun cfg 48 [.one (.sc (.int .u32 a0)), .one (.sc (.int .i64 a1))] [] (word_Sar.R r) [] := by
  unfold word_Sar.f at h
  refine fun_of_run cfg_ok (f := 48) (fn := Tryd.f48) Tryd.func48 rfl (by kernel_rfl) (rs := [.tmp 4]) rfl (nt := 12) rfl (l := fin) (k := (.adj [] (.adj [] (.adj [] (.adj [] .nil))))) (to_goal (q := (True ∧ (True ∧ (True) ∧ (True) ∧ ((32 : Int) ≠ 0) ∧ (0 ≤ (Int.tmod (IntKind.wrap .u64 (a1)) (32 : Int))) ∧ (True) ∧ (True ∧ ((True) ∧ (True) ∧ (.v (.one (.sc (.int .u32 (IntKind.wrap .u32 ((shr .i32 (IntKind.wrap .i32 (a0)) (Int.tmod (IntKind.wrap .u64 (a1)) (32 : Int)))))))) : Tm) = word_Sar.R r ∧ ([] : List Box) = []))))) (by kernel_rfl) ?_)
  refine ⟨trivial, ?_⟩
  refine ⟨trivial, ?_⟩
  refine ⟨trivial, ?_⟩
  refine ⟨trivial, ?_⟩
  refine ⟨(by decide), ?_⟩
  obtain ⟨g1, h⟩ := of_guard h
  refine ⟨g1, ?_⟩
  refine ⟨trivial, ?_⟩
  refine ⟨trivial, ?_⟩
  obtain rfl := Option.some.inj h
  exact ⟨trivial, trivial, rfl, rfl⟩
/-! halter/alu.plain -/
def alu_plain.f (a0 : Int) (a1 : Int) (a2 : Int) : Option (Int × (Option Int)) :=
  if a0 = (9 : Int) then
    some ((bits .and .u32 a1 a2), none)
  else
    if a0 = (10 : Int) then
      some ((bits .or .u32 a1 a2), none)
    else
      if a0 = (11 : Int) then
        some ((bits .xor .u32 a1 a2), none)
      else
        if a0 = (12 : Int) then
          (word_Shift.f a1 (IntKind.wrap .i64 ((Int.tmod a2 (32 : Int))))).bind fun t5 =>
          some (t5, none)
        else
          if a0 = (13 : Int) then
            (word_Shift.f a1 (IntKind.wrap .i64 (0 - (IntKind.wrap .i64 ((Int.tmod a2 (32 : Int))))))).bind fun t7 =>
            some (t7, none)
          else
            if a0 = (14 : Int) then
              (word_Sar.f a1 (IntKind.wrap .i64 ((Int.tmod a2 (32 : Int))))).bind fun t9 =>
              some (t9, none)
            else
              some ((0 : Int), (some (22 : Int)))
def alu_plain.R (r : Int × (Option Int)) : Tm := .tup [.one (.sc (.int .u32 r.1)), .one (.err r.2)]
theorem alu_plain.fun_ {a0 : Int} {a1 : Int} {a2 : Int} {r : Int × (Option Int)} (h : alu_plain.f a0 a1 a2 = some r) : Fun cfg 20 [.one (.sc (.int .i64 a0)), .one (.sc (.int .u32 a1)), .one (.sc (.int .u32 a2))] [] (alu_plain.R r) [] := by
  unfold alu_plain.f at h
  refine fun_of_run cfg_ok (f := 20) (fn := Tryd.f20) Tryd.func20 rfl (by kernel_rfl) (rs := [.tmp 6, .tmp 7]) rfl (nt := 45) rfl (l := fin) (k := (.br (.adj [] (.adj [] (.adj [] .nil))) (.br (.adj [] (.adj [] (.adj [] .nil))) (.br (.adj [] (.adj [] (.adj [] .nil))) (.br (.call true [] (Int) (fun t5 => word_Shift.R t5) (fun t5 => (.adj [] (.adj [] .nil)))) (.br (.call true [] (Int) (fun t7 => word_Shift.R t7) (fun t7 => (.adj [] (.adj [] .nil)))) (.br (.call true [] (Int) (fun t9 => word_Sar.R t9) (fun t9 => (.adj [] (.adj [] .nil)))) (.adj [] (.adj [] (.adj [] (.adj [] .nil))))))))))) (to_goal (q := ((32 : Int) ≠ 0) ∧ (True) ∧ (True) ∧ (((a0 == (9 : Int)) = true → (True ∧ (True) ∧ (True ∧ ((True) ∧ (True) ∧ (.tup [.one (.sc (.int .u32 (bits .and .u32 a1 a2))), .one (.err none)] : Tm) = alu_plain.R r ∧ ([] : List Box) = [])))) ∧ ((a0 == (9 : Int)) = false → (True) ∧ (((a0 == (10 : Int)) = true → (True ∧ (True) ∧ (True ∧ ((True) ∧ (True) ∧ (.tup [.one (.sc (.int .u32 (bits .or .u32 a1 a2))), .one (.err none)] : Tm) = alu_plain.R r ∧ ([] : List Box) = [])))) ∧ ((a0 == (10 : Int)) = false → (True) ∧ (((a0 == (11 : Int)) = true → (True ∧ (True) ∧ (True ∧ ((True) ∧ (True) ∧ (.tup [.one (.sc (.int .u32 (bits .xor .u32 a1 a2))), .one (.err none)] : Tm) = alu_plain.R r ∧ ([] : List Box) = [])))) ∧ ((a0 == (11 : Int)) = false → (True) ∧ (((a0 == (12 : Int)) = true → (∃ t5 : Int, (Fun cfg 47 [.one (.sc (.int .u32 a1)), .one (.sc (.int .i64 (IntKind.wrap .i64 ((Int.tmod a2 (32 : Int))))))] [] (word_Shift.R t5) [] ∧ True) ∧ (True ∧ ((True) ∧ (True) ∧ (.tup [.one (.sc (.int .u32 t5)), .one (.err none)] : Tm) = alu_plain.R r ∧ ([] : List Box) = [])))) ∧ ((a0 == (12 : Int)) = false → (True) ∧ (((a0 == (13 : Int)) = true → (∃ t7 : Int, (Fun cfg 47 [.one (.sc (.int .u32 a1)), .one (.sc (.int .i64 (IntKind.wrap .i64 (0 - (IntKind.wrap .i64 ((Int.tmod a2 (32 : Int))))))))] [] (word_Shift.R t7) [] ∧ True) ∧ (True ∧ ((True) ∧ (True) ∧ (.tup [.one (.sc (.int .u32 t7)), .one (.err none)] : Tm) = alu_plain.R r ∧ ([] : List Box) = [])))) ∧ ((a0 == (13 : Int)) = false → (True) ∧ (((a0 == (14 : Int)) = true → (∃ t9 : Int, (Fun cfg 48 [.one (.sc (.int .u32 a1)), .one (.sc (.int .i64 (IntKind.wrap .i64 ((Int.tmod a2 (32 : Int))))))] [] (word_Sar.R t9) [] ∧ True) ∧ (True ∧ ((True) ∧ (True) ∧ (.tup [.one (.sc (.int .u32 t9)), .one (.err none)] : Tm) = alu_plain.R r ∧ ([] : List Box) = [])))) ∧ ((a0 == (14 : Int)) = false → (True ∧ (True ∧ (True ∧ ((True) ∧ (True) ∧ (.tup [.one (.sc (.int .u32 (0 : Int))), .one (.err (some (22 : Int)))] : Tm) = alu_plain.R r ∧ ([] : List Box) = []))))))))))))))))) (by kernel_rfl) ?_)
  refine ⟨(by decide), ?_⟩
  refine ⟨trivial, ?_⟩
  refine ⟨trivial, ?_⟩
  refine ⟨fun b1 => ?_, fun b1 => ?_⟩
  · rw [if_pos (beq_t b1)] at h
    refine ⟨trivial, ?_⟩
    refine ⟨trivial, ?_⟩
    refine ⟨trivial, ?_⟩
    obtain rfl := Option.some.inj h
    exact ⟨trivial, trivial, rfl, rfl⟩
  · rw [if_neg (beq_f b1)] at h
    refine ⟨trivial, ?_⟩
    refine ⟨fun b2 => ?_, fun b2 => ?_⟩
    · rw [if_pos (beq_t b2)] at h
      refine ⟨trivial, ?_⟩
      refine ⟨trivial, ?_⟩
      refine ⟨trivial, ?_⟩
      obtain rfl := Option.some.inj h
      exact ⟨trivial, trivial, rfl, rfl⟩
    · rw [if_neg (beq_f b2)] at h
      refine ⟨trivial, ?_⟩
      refine ⟨fun b3 => ?_, fun b3 => ?_⟩
      · rw [if_pos (beq_t b3)] at h
        refine ⟨trivial, ?_⟩
        refine ⟨trivial, ?_⟩
        refine ⟨trivial, ?_⟩
        obtain rfl := Option.some.inj h
        exact ⟨trivial, trivial, rfl, rfl⟩
      · rw [if_neg (beq_f b3)] at h
        refine ⟨trivial, ?_⟩
        refine ⟨fun b4 => ?_, fun b4 => ?_⟩
        · rw [if_pos (beq_t b4)] at h
          obtain ⟨t5, ht5, h⟩ := of_bind h
          refine ⟨t5, ⟨word_Shift.fun_ ht5, trivial⟩, ?_⟩
          refine ⟨trivial, ?_⟩
          obtain rfl := Option.some.inj h
          exact ⟨trivial, trivial, rfl, rfl⟩
        · rw [if_neg (beq_f b4)] at h
          refine ⟨trivial, ?_⟩
          refine ⟨fun b6 => ?_, fun b6 => ?_⟩
          · rw [if_pos (beq_t b6)] at h
            obtain ⟨t7, ht7, h⟩ := of_bind h
            refine ⟨t7, ⟨word_Shift.fun_ ht7, trivial⟩, ?_⟩
            refine ⟨trivial, ?_⟩
            obtain rfl := Option.some.inj h
            exact ⟨trivial, trivial, rfl, rfl⟩
          · rw [if_neg (beq_f b6)] at h
            refine ⟨trivial, ?_⟩
            refine ⟨fun b8 => ?_, fun b8 => ?_⟩
            · rw [if_pos (beq_t b8)] at h
              obtain ⟨t9, ht9, h⟩ := of_bind h
              refine ⟨t9, ⟨word_Sar.fun_ ht9, trivial⟩, ?_⟩
              refine ⟨trivial, ?_⟩
              obtain rfl := Option.some.inj h
              exact ⟨trivial, trivial, rfl, rfl⟩
            · rw [if_neg (beq_f b8)] at h
              refine ⟨trivial, ?_⟩
              refine ⟨trivial, ?_⟩
              refine ⟨trivial, ?_⟩
              obtain rfl := Option.some.inj h
              exact ⟨trivial, trivial, rfl, rfl⟩
/-! halter/alu.Do -/
def alu_Do.f (a0 : Int) (a1 : Int) (a2 : Int) (a3 : Int) : Option (Int × Int × (Option Int)) :=
  if a0 = (4 : Int) then
    (alu_sums.f a0 a1 a2).bind fun t2 =>
    some (t2.1, (bits .or .u32 t2.2 (bits .and .u32 a3 (16 : Int))), none)
  else
    if a0 = (5 : Int) then
      (alu_sums.f a0 a1 a2).bind fun t4 =>
      some (t4.1, (bits .or .u32 t4.2 (bits .and .u32 a3 (16 : Int))), none)
    else
      if a0 = (16 : Int) then
        (alu_sums.f a0 a1 a2).bind fun t6 =>
        some (t6.1, (bits .or .u32 t6.2 (bits .and .u32 a3 (16 : Int))), none)
      else
        if a0 = (6 : Int) then
          (alu_sums.f a0 a1 a2).bind fun t8 =>
          some (t8.1, (bits .or .u32 t8.2 (bits .and .u32 a3 (16 : Int))), none)
        else
          if a0 = (7 : Int) then
            (alu_parts.f a0 a1 a2).bind fun t10 =>
            if ¬ (t10.2 = none) then
              some ((0 : Int), (0 : Int), t10.2)
            else
              (alu_pair.f t10.1 false false).bind fun t12 =>
              some (t10.1, (bits .or .u32 t12 (bits .and .u32 a3 (16 : Int))), none)
          else
            if a0 = (8 : Int) then
              (alu_parts.f a0 a1 a2).bind fun t14 =>
              if ¬ (t14.2 = none) then
                some ((0 : Int), (0 : Int), t14.2)
              else
                (alu_pair.f t14.1 false false).bind fun t16 =>
                some (t14.1, (bits .or .u32 t16 (bits .and .u32 a3 (16 : Int))), none)
            else
              (alu_plain.f a0 a1 a2).bind fun t17 =>
              if ¬ (t17.2 = none) then
                some ((0 : Int), (0 : Int), t17.2)
              else
                (alu_pair.f t17.1 false false).bind fun t19 =>
                some (t17.1, (bits .or .u32 t19 (bits .and .u32 a3 (16 : Int))), none)
def alu_Do.R (r : Int × Int × (Option Int)) : Tm := .tup [.one (.sc (.int .u32 r.1)), .one (.sc (.int .u32 r.2.1)), .one (.err r.2.2)]
theorem alu_Do.fun_ {a0 : Int} {a1 : Int} {a2 : Int} {a3 : Int} {r : Int × Int × (Option Int)} (h : alu_Do.f a0 a1 a2 a3 = some r) : Fun cfg 7 [.one (.sc (.int .i64 a0)), .one (.sc (.int .u32 a1)), .one (.sc (.int .u32 a2)), .one (.sc (.int .u32 a3))] [] (alu_Do.R r) [] := by
  unfold alu_Do.f at h
  refine fun_of_run cfg_ok (f := 7) (fn := Tryd.f7) Tryd.func7 rfl (by kernel_rfl) (rs := [.tmp 8, .tmp 9, .tmp 10]) rfl (nt := 70) rfl (l := fin) (k := (.br (.one true (.call true [] (Int × Int) (fun t2 => alu_sums.R t2) (fun t2 => (.adj [] (.adj [] (.adj [] .nil)))))) (.br (.one true (.call true [] (Int × Int) (fun t4 => alu_sums.R t4) (fun t4 => (.adj [] (.adj [] (.adj [] .nil)))))) (.br (.one true (.call true [] (Int × Int) (fun t6 => alu_sums.R t6) (fun t6 => (.adj [] (.adj [] (.adj [] .nil)))))) (.br (.call true [] (Int × Int) (fun t8 => alu_sums.R t8) (fun t8 => (.adj [] (.adj [] (.adj [] .nil))))) (.br (.one true (.call true [] (Int × (Option Int)) (fun t10 => alu_parts.R t10) (fun t10 => (.br (.adj [] (.adj [] (.adj [] .nil))) (.call true [] (Int) (fun t12 => alu_pair.R t12) (fun t12 => (.adj [] (.adj [] .nil)))))))) (.br (.call true [] (Int × (Option Int)) (fun t14 => alu_parts.R t14) (fun t14 => (.br (.adj [] (.adj [] (.adj [] .nil))) (.call true [] (Int) (fun t16 => alu_pair.R t16) (fun t16 => (.adj [] (.adj [] .nil))))))) (.call true [] (Int × (Option Int)) (fun t17 => alu_plain.R t17) (fun t17 => (.br (.adj [] (.adj [] (.adj [] .nil))) (.call true [] (Int) (fun t19 => alu_pair.R t19) (fun t19 => (.adj [] (.adj [] .nil)))))))))))))) (to_goal (q := (True) ∧ (True) ∧ (((a0 == (4 : Int)) = true → ((a0 == (4 : Int)) = true ∧ (∃ t2 : Int × Int, (Fun cfg 17 [.one (.sc (.int .i64 a0)), .one (.sc (.int .u32 a1)), .one (.sc (.int .u32 a2))] [] (alu_sums.R t2) [] ∧ True) ∧ (True ∧ (True) ∧ (True ∧ ((True) ∧ (True) ∧ (.tup [.one (.sc (.int .u32 t2.1)), .one (.sc (.int .u32 (bits .or .u32 t2.2 (bits .and .u32 a3 (16 : Int))))), .one (.err none)] : Tm) = alu_Do.R r ∧ ([] : List Box) = [])))))) ∧ ((a0 == (4 : Int)) = false → (True) ∧ (((a0 == (5 : Int)) = true → ((a0 == (5 : Int)) = true ∧ (∃ t4 : Int × Int, (Fun cfg 17 [.one (.sc (.int .i64 a0)), .one (.sc (.int .u32 a1)), .one (.sc (.int .u32 a2))] [] (alu_sums.R t4) [] ∧ True) ∧ (True ∧ (True) ∧ (True ∧ ((True) ∧ (True) ∧ (.tup [.one (.sc (.int .u32 t4.1)), .one (.sc (.int .u32 (bits .or .u32 t4.2 (bits .and .u32 a3 (16 : Int))))), .one (.err none)] : Tm) = alu_Do.R r ∧ ([] : List Box) = [])))))) ∧ ((a0 == (5 : Int)) = false → (True) ∧ (((a0 == (16 : Int)) = true → ((a0 == (16 : Int)) = true ∧ (∃ t6 : Int × Int, (Fun cfg 17 [.one (.sc (.int .i64 a0)), .one (.sc (.int .u32 a1)), .one (.sc (.int .u32 a2))] [] (alu_sums.R t6) [] ∧ True) ∧ (True ∧ (True) ∧ (True ∧ ((True) ∧ (True) ∧ (.tup [.one (.sc (.int .u32 t6.1)), .one (.sc (.int .u32 (bits .or .u32 t6.2 (bits .and .u32 a3 (16 : Int))))), .one (.err none)] : Tm) = alu_Do.R r ∧ ([] : List Box) = [])))))) ∧ ((a0 == (16 : Int)) = false → (True) ∧ (((a0 == (6 : Int)) = true → (∃ t8 : Int × Int, (Fun cfg 17 [.one (.sc (.int .i64 a0)), .one (.sc (.int .u32 a1)), .one (.sc (.int .u32 a2))] [] (alu_sums.R t8) [] ∧ True) ∧ (True ∧ (True) ∧ (True ∧ ((True) ∧ (True) ∧ (.tup [.one (.sc (.int .u32 t8.1)), .one (.sc (.int .u32 (bits .or .u32 t8.2 (bits .and .u32 a3 (16 : Int))))), .one (.err none)] : Tm) = alu_Do.R r ∧ ([] : List Box) = []))))) ∧ ((a0 == (6 : Int)) = false → (True) ∧ (((a0 == (7 : Int)) = true → ((a0 == (7 : Int)) = true ∧ (∃ t10 : Int × (Option Int), (Fun cfg 18 [.one (.sc (.int .i64 a0)), .one (.sc (.int .u32 a1)), .one (.sc (.int .u32 a2))] [] (alu_parts.R t10) [] ∧ True) ∧ (True) ∧ (((!(Option.isNone t10.2)) = true → (True ∧ (True ∧ ((True) ∧ (True) ∧ (.tup [.one (.sc (.int .u32 (0 : Int))), .one (.sc (.int .u32 (0 : Int))), .one (.err t10.2)] : Tm) = alu_Do.R r ∧ ([] : List Box) = [])))) ∧ ((!(Option.isNone t10.2)) = false → (∃ t12 : Int, (Fun cfg 19 [.one (.sc (.int .u32 t10.1)), .one (.sc (.bool false)), .one (.sc (.bool false))] [] (alu_pair.R t12) [] ∧ True) ∧ (True) ∧ (True ∧ ((True) ∧ (True) ∧ (.tup [.one (.sc (.int .u32 t10.1)), .one (.sc (.int .u32 (bits .or .u32 t12 (bits .and .u32 a3 (16 : Int))))), .one (.err none)] : Tm) = alu_Do.R r ∧ ([] : List Box) = [])))))))) ∧ ((a0 == (7 : Int)) = false → (True) ∧ (((a0 == (8 : Int)) = true → (∃ t14 : Int × (Option Int), (Fun cfg 18 [.one (.sc (.int .i64 a0)), .one (.sc (.int .u32 a1)), .one (.sc (.int .u32 a2))] [] (alu_parts.R t14) [] ∧ True) ∧ (True) ∧ (((!(Option.isNone t14.2)) = true → (True ∧ (True ∧ ((True) ∧ (True) ∧ (.tup [.one (.sc (.int .u32 (0 : Int))), .one (.sc (.int .u32 (0 : Int))), .one (.err t14.2)] : Tm) = alu_Do.R r ∧ ([] : List Box) = [])))) ∧ ((!(Option.isNone t14.2)) = false → (∃ t16 : Int, (Fun cfg 19 [.one (.sc (.int .u32 t14.1)), .one (.sc (.bool false)), .one (.sc (.bool false))] [] (alu_pair.R t16) [] ∧ True) ∧ (True) ∧ (True ∧ ((True) ∧ (True) ∧ (.tup [.one (.sc (.int .u32 t14.1)), .one (.sc (.int .u32 (bits .or .u32 t16 (bits .and .u32 a3 (16 : Int))))), .one (.err none)] : Tm) = alu_Do.R r ∧ ([] : List Box) = []))))))) ∧ ((a0 == (8 : Int)) = false → (∃ t17 : Int × (Option Int), (Fun cfg 20 [.one (.sc (.int .i64 a0)), .one (.sc (.int .u32 a1)), .one (.sc (.int .u32 a2))] [] (alu_plain.R t17) [] ∧ True) ∧ (True) ∧ (((!(Option.isNone t17.2)) = true → (True ∧ (True ∧ ((True) ∧ (True) ∧ (.tup [.one (.sc (.int .u32 (0 : Int))), .one (.sc (.int .u32 (0 : Int))), .one (.err t17.2)] : Tm) = alu_Do.R r ∧ ([] : List Box) = [])))) ∧ ((!(Option.isNone t17.2)) = false → (∃ t19 : Int, (Fun cfg 19 [.one (.sc (.int .u32 t17.1)), .one (.sc (.bool false)), .one (.sc (.bool false))] [] (alu_pair.R t19) [] ∧ True) ∧ (True) ∧ (True ∧ ((True) ∧ (True) ∧ (.tup [.one (.sc (.int .u32 t17.1)), .one (.sc (.int .u32 (bits .or .u32 t19 (bits .and .u32 a3 (16 : Int))))), .one (.err none)] : Tm) = alu_Do.R r ∧ ([] : List Box) = []))))))))))))))))))) (by kernel_rfl) ?_)
  refine ⟨trivial, ?_⟩
  refine ⟨trivial, ?_⟩
  refine ⟨fun b1 => ?_, fun b1 => ?_⟩
  · rw [if_pos (beq_t b1)] at h
    refine ⟨b1, ?_⟩
    obtain ⟨t2, ht2, h⟩ := of_bind h
    refine ⟨t2, ⟨alu_sums.fun_ ht2, trivial⟩, ?_⟩
    refine ⟨trivial, ?_⟩
    refine ⟨trivial, ?_⟩
    refine ⟨trivial, ?_⟩
    obtain rfl := Option.some.inj h
    exact ⟨trivial, trivial, rfl, rfl⟩
  · rw [if_neg (beq_f b1)] at h
    refine ⟨trivial, ?_⟩
    refine ⟨fun b3 => ?_, fun b3 => ?_⟩
    · rw [if_pos (beq_t b3)] at h
      refine ⟨b3, ?_⟩
      obtain ⟨t4, ht4, h⟩ := of_bind h
      refine ⟨t4, ⟨alu_sums.fun_ ht4, trivial⟩, ?_⟩
      refine ⟨trivial, ?_⟩
      refine ⟨trivial, ?_⟩
      refine ⟨trivial, ?_⟩
      obtain rfl := Option.some.inj h
      exact ⟨trivial, trivial, rfl, rfl⟩
    · rw [if_neg (beq_f b3)] at h
      refine ⟨trivial, ?_⟩
      refine ⟨fun b5 => ?_, fun b5 => ?_⟩
      · rw [if_pos (beq_t b5)] at h
        refine ⟨b5, ?_⟩
        obtain ⟨t6, ht6, h⟩ := of_bind h
        refine ⟨t6, ⟨alu_sums.fun_ ht6, trivial⟩, ?_⟩
        refine ⟨trivial, ?_⟩
        refine ⟨trivial, ?_⟩
        refine ⟨trivial, ?_⟩
        obtain rfl := Option.some.inj h
        exact ⟨trivial, trivial, rfl, rfl⟩
      · rw [if_neg (beq_f b5)] at h
        refine ⟨trivial, ?_⟩
        refine ⟨fun b7 => ?_, fun b7 => ?_⟩
        · rw [if_pos (beq_t b7)] at h
          obtain ⟨t8, ht8, h⟩ := of_bind h
          refine ⟨t8, ⟨alu_sums.fun_ ht8, trivial⟩, ?_⟩
          refine ⟨trivial, ?_⟩
          refine ⟨trivial, ?_⟩
          refine ⟨trivial, ?_⟩
          obtain rfl := Option.some.inj h
          exact ⟨trivial, trivial, rfl, rfl⟩
        · rw [if_neg (beq_f b7)] at h
          refine ⟨trivial, ?_⟩
          refine ⟨fun b9 => ?_, fun b9 => ?_⟩
          · rw [if_pos (beq_t b9)] at h
            refine ⟨b9, ?_⟩
            obtain ⟨t10, ht10, h⟩ := of_bind h
            refine ⟨t10, ⟨alu_parts.fun_ ht10, trivial⟩, ?_⟩
            refine ⟨trivial, ?_⟩
            refine ⟨fun b11 => ?_, fun b11 => ?_⟩
            · rw [if_pos (none_f (not_t b11))] at h
              refine ⟨trivial, ?_⟩
              refine ⟨trivial, ?_⟩
              obtain rfl := Option.some.inj h
              exact ⟨trivial, trivial, rfl, rfl⟩
            · rw [if_neg (not_not_intro (none_t (not_f b11)))] at h
              obtain ⟨t12, ht12, h⟩ := of_bind h
              refine ⟨t12, ⟨alu_pair.fun_ ht12, trivial⟩, ?_⟩
              refine ⟨trivial, ?_⟩
              refine ⟨trivial, ?_⟩
              obtain rfl := Option.some.inj h
              exact ⟨trivial, trivial, rfl, rfl⟩
          · rw [if_neg (beq_f b9)] at h
            refine ⟨trivial, ?_⟩
            refine ⟨fun b13 => ?_, fun b13 => ?_⟩
            · rw [if_pos (beq_t b13)] at h
              obtain ⟨t14, ht14, h⟩ := of_bind h
              refine ⟨t14, ⟨alu_parts.fun_ ht14, trivial⟩, ?_⟩
              refine ⟨trivial, ?_⟩
              refine ⟨fun b15 => ?_, fun b15 => ?_⟩
              · rw [if_pos (none_f (not_t b15))] at h
                refine ⟨trivial, ?_⟩
                refine ⟨trivial, ?_⟩
                obtain rfl := Option.some.inj h
                exact ⟨trivial, trivial, rfl, rfl⟩
              · rw [if_neg (not_not_intro (none_t (not_f b15)))] at h
                obtain ⟨t16, ht16, h⟩ := of_bind h
                refine ⟨t16, ⟨alu_pair.fun_ ht16, trivial⟩, ?_⟩
                refine ⟨trivial, ?_⟩
                refine ⟨trivial, ?_⟩
                obtain rfl := Option.some.inj h
                exact ⟨trivial, trivial, rfl, rfl⟩
            · rw [if_neg (beq_f b13)] at h
              obtain ⟨t17, ht17, h⟩ := of_bind h
              refine ⟨t17, ⟨alu_plain.fun_ ht17, trivial⟩, ?_⟩
              refine ⟨trivial, ?_⟩
              refine ⟨fun b18 => ?_, fun b18 => ?_⟩
              · rw [if_pos (none_f (not_t b18))] at h
                refine ⟨trivial, ?_⟩
                refine ⟨trivial, ?_⟩
                obtain rfl := Option.some.inj h
                exact ⟨trivial, trivial, rfl, rfl⟩
              · rw [if_neg (not_not_intro (none_t (not_f b18)))] at h
                obtain ⟨t19, ht19, h⟩ := of_bind h
                refine ⟨t19, ⟨alu_pair.fun_ ht19, trivial⟩, ?_⟩
                refine ⟨trivial, ?_⟩
                refine ⟨trivial, ?_⟩
                obtain rfl := Option.some.inj h
                exact ⟨trivial, trivial, rfl, rfl⟩
/-! halter/halterref01.Of -/
def halterref01_Of.f (a0 : Int) : Option Int :=
  if (Int.tmod a0 (4294967296 : Int)) < (0 : Int) then
    some (IntKind.wrap .u32 ((IntKind.wrap .i64 ((Int.tmod a0 (4294967296 : Int)) + (4294967296 : Int)))))
  else
    some (IntKind.wrap .u32 ((Int.tmod a0 (4294967296 : Int))))
def halterref01_Of.R (r : Int) : Tm := .v (.one (.sc (.int .u32 r)))
theorem halterref01_Of.fun_ {a0 : Int} {r : Int} (h : halterref01_Of.f a0 = some r) : Fun cfg 25 [.one (.sc (.int .i64 a0))] [] (halterref01_Of.R r) [] := by
  unfold halterref01_Of.f at h
  refine fun_of_run cfg_ok (f := 25) (fn := Tryd.f25) Tryd.func25 rfl (by kernel_rfl) (rs := [.tmp 2]) rfl (nt := 11) rfl (l := fin) (k := (.br (.adj [] (.adj [] (.adj [] (.adj [] .nil)))) (.adj [] (.adj [] (.adj [] (.adj [] .nil)))))) (to_goal (q := ((4294967296 : Int) ≠ 0) ∧ (True) ∧ (((decide ((Int.tmod a0 (4294967296 : Int)) < (0 : Int))) = true → (True ∧ (True) ∧ (True ∧ (True) ∧ (True ∧ ((True) ∧ (True) ∧ (.v (.one (.sc (.int .u32 (IntKind.wrap .u32 ((IntKind.wrap .i64 ((Int.tmod a0 (4294967296 : Int)) + (4294967296 : Int)))))))) : Tm) = halterref01_Of.R r ∧ ([] : List Box) = []))))) ∧ ((decide ((Int.tmod a0 (4294967296 : Int)) < (0 : Int))) = false → (True ∧ (True ∧ (True) ∧ (True ∧ ((True) ∧ (True) ∧ (.v (.one (.sc (.int .u32 (IntKind.wrap .u32 ((Int.tmod a0 (4294967296 : Int))))))) : Tm) = halterref01_Of.R r ∧ ([] : List Box) = []))))))) (by kernel_rfl) ?_)
  refine ⟨(by decide), ?_⟩
  refine ⟨trivial, ?_⟩
  refine ⟨fun b1 => ?_, fun b1 => ?_⟩
  · rw [if_pos (of_decide_eq_true b1)] at h
    refine ⟨trivial, ?_⟩
    refine ⟨trivial, ?_⟩
    refine ⟨trivial, ?_⟩
    refine ⟨trivial, ?_⟩
    refine ⟨trivial, ?_⟩
    obtain rfl := Option.some.inj h
    exact ⟨trivial, trivial, rfl, rfl⟩
  · rw [if_neg (of_decide_eq_false b1)] at h
    refine ⟨trivial, ?_⟩
    refine ⟨trivial, ?_⟩
    refine ⟨trivial, ?_⟩
    refine ⟨trivial, ?_⟩
    obtain rfl := Option.some.inj h
    exact ⟨trivial, trivial, rfl, rfl⟩
/-! halter/halterref01.Sign -/
def halterref01_Sign.f (a0 : Int) : Option Int :=
  if (IntKind.wrap .i64 (a0)) ≥ (2147483648 : Int) then
    some (IntKind.wrap .i64 ((IntKind.wrap .i64 (a0)) - (4294967296 : Int)))
  else
    some (IntKind.wrap .i64 (a0))
def halterref01_Sign.R (r : Int) : Tm := .v (.one (.sc (.int .i64 r)))
theorem halterref01_Sign.fun_ {a0 : Int} {r : Int} (h : halterref01_Sign.f a0 = some r) : Fun cfg 50 [.one (.sc (.int .u32 a0))] [] (halterref01_Sign.R r) [] := by
  unfold halterref01_Sign.f at h
  refine fun_of_run cfg_ok (f := 50) (fn := Tryd.f50) Tryd.func50 rfl (by kernel_rfl) (rs := [.tmp 2]) rfl (nt := 11) rfl (l := fin) (k := (.br (.adj [] (.adj [] (.adj [] .nil))) (.adj [] (.adj [] (.adj [] (.adj [] .nil)))))) (to_goal (q := (True) ∧ (True) ∧ (((decide ((IntKind.wrap .i64 (a0)) ≥ (2147483648 : Int))) = true → (True ∧ (True) ∧ (True ∧ ((True) ∧ (True) ∧ (.v (.one (.sc (.int .i64 (IntKind.wrap .i64 ((IntKind.wrap .i64 (a0)) - (4294967296 : Int)))))) : Tm) = halterref01_Sign.R r ∧ ([] : List Box) = [])))) ∧ ((decide ((IntKind.wrap .i64 (a0)) ≥ (2147483648 : Int))) = false → (True ∧ (True ∧ (True ∧ ((True) ∧ (True) ∧ (.v (.one (.sc (.int .i64 (IntKind.wrap .i64 (a0))))) : Tm) = halterref01_Sign.R r ∧ ([] : List Box) = []))))))) (by kernel_rfl) ?_)
  refine ⟨trivial, ?_⟩
  refine ⟨trivial, ?_⟩
  refine ⟨fun b1 => ?_, fun b1 => ?_⟩
  · rw [if_pos (of_decide_eq_true b1)] at h
    refine ⟨trivial, ?_⟩
    refine ⟨trivial, ?_⟩
    refine ⟨trivial, ?_⟩
    obtain rfl := Option.some.inj h
    exact ⟨trivial, trivial, rfl, rfl⟩
  · rw [if_neg (of_decide_eq_false b1)] at h
    refine ⟨trivial, ?_⟩
    refine ⟨trivial, ?_⟩
    refine ⟨trivial, ?_⟩
    obtain rfl := Option.some.inj h
    exact ⟨trivial, trivial, rfl, rfl⟩
/-! halter/halterref01.beyond -/
def halterref01_beyond.f (a0 : Int) : Option Bool :=
  if a0 < (-2147483648 : Int) then
    some true
  else
    some (decide (a0 ≥ (2147483648 : Int)))
def halterref01_beyond.R (r : Bool) : Tm := .v (.one (.sc (.bool r)))
theorem halterref01_beyond.fun_ {a0 : Int} {r : Bool} (h : halterref01_beyond.f a0 = some r) : Fun cfg 49 [.one (.sc (.int .i64 a0))] [] (halterref01_beyond.R r) [] := by
  unfold halterref01_beyond.f at h
  refine fun_of_run cfg_ok (f := 49) (fn := Tryd.f49) Tryd.func49 rfl (by kernel_rfl) (rs := [.tmp 2]) rfl (nt := 9) rfl (l := fin) (k := (.br (.one true (.one true (.adj [] (.adj [] .nil)))) (.one false (.one false (.adj [] (.adj [] .nil)))))) (to_goal (q := (True) ∧ (((decide (a0 < (-2147483648 : Int))) = false → ((decide (a0 < (-2147483648 : Int))) = false ∧ (True) ∧ ((decide (a0 < (-2147483648 : Int))) = false ∧ (True ∧ ((True) ∧ (True) ∧ (.v (.one (.sc (.bool (decide (a0 ≥ (2147483648 : Int)))))) : Tm) = halterref01_beyond.R r ∧ ([] : List Box) = []))))) ∧ ((decide (a0 < (-2147483648 : Int))) = true → ((decide (a0 < (-2147483648 : Int))) = true ∧ ((decide (a0 < (-2147483648 : Int))) = true ∧ (True ∧ ((True) ∧ (True) ∧ (.v (.one (.sc (.bool true))) : Tm) = halterref01_beyond.R r ∧ ([] : List Box) = []))))))) (by kernel_rfl) ?_)
  refine ⟨trivial, ?_⟩
  refine ⟨fun b1 => ?_, fun b1 => ?_⟩
  · rw [if_neg (of_decide_eq_false b1)] at h
    refine ⟨b1, ?_⟩
    refine ⟨trivial, ?_⟩
    refine ⟨b1, ?_⟩
    refine ⟨trivial, ?_⟩
    obtain rfl := Option.some.inj h
    exact ⟨trivial, trivial, rfl, rfl⟩
  · rw [if_pos (of_decide_eq_true b1)] at h
    refine ⟨b1, ?_⟩
    refine ⟨b1, ?_⟩
    refine ⟨trivial, ?_⟩
    obtain rfl := Option.some.inj h
    exact ⟨trivial, trivial, rfl, rfl⟩
/-! halter/halterref01.Add -/
def halterref01_Add.f (a0 : Int) (a1 : Int) (a2 : Bool) : Option (Int × Bool × Bool) :=
  if a2 = true then
    (halterref01_Of.f (IntKind.wrap .i64 ((IntKind.wrap .i64 ((IntKind.wrap .i64 (a0)) + (IntKind.wrap .i64 (a1)))) + (1 : Int)))).bind fun t2 =>
    (halterref01_Sign.f a0).bind fun t3 =>
    (halterref01_Sign.f a1).bind fun t4 =>
    (halterref01_beyond.f (IntKind.wrap .i64 ((IntKind.wrap .i64 (t3 + t4)) + (1 : Int)))).bind fun t5 =>
    some (t2, (decide ((IntKind.wrap .i64 ((IntKind.wrap .i64 ((IntKind.wrap .i64 (a0)) + (IntKind.wrap .i64 (a1)))) + (1 : Int))) ≥ (4294967296 : Int))), t5)
  else
    (halterref01_Of.f (IntKind.wrap .i64 ((IntKind.wrap .i64 ((IntKind.wrap .i64 (a0)) + (IntKind.wrap .i64 (a1)))) + (0 : Int)))).bind fun t6 =>
    (halterref01_Sign.f a0).bind fun t7 =>
    (halterref01_Sign.f a1).bind fun t8 =>
    (halterref01_beyond.f (IntKind.wrap .i64 ((IntKind.wrap .i64 (t7 + t8)) + (0 : Int)))).bind fun t9 =>
    some (t6, (decide ((IntKind.wrap .i64 ((IntKind.wrap .i64 ((IntKind.wrap .i64 (a0)) + (IntKind.wrap .i64 (a1)))) + (0 : Int))) ≥ (4294967296 : Int))), t9)
def halterref01_Add.R (r : Int × Bool × Bool) : Tm := .tup [.one (.sc (.int .u32 r.1)), .one (.sc (.bool r.2.1)), .one (.sc (.bool r.2.2))]
theorem halterref01_Add.fun_ {a0 : Int} {a1 : Int} {a2 : Bool} {r : Int × Bool × Bool} (h : halterref01_Add.f a0 a1 a2 = some r) : Fun cfg 21 [.one (.sc (.int .u32 a0)), .one (.sc (.int .u32 a1)), .one (.sc (.bool a2))] [] (halterref01_Add.R r) [] := by
  unfold halterref01_Add.f at h
  refine fun_of_run cfg_ok (f := 21) (fn := Tryd.f21) Tryd.func21 rfl (by kernel_rfl) (rs := [.tmp 6, .tmp 7, .tmp 8]) rfl (nt := 35) rfl (l := fin) (k := (.br (.call true [] (Int) (fun t2 => halterref01_Of.R t2) (fun t2 => (.call true [] (Int) (fun t3 => halterref01_Sign.R t3) (fun t3 => (.call true [] (Int) (fun t4 => halterref01_Sign.R t4) (fun t4 => (.call true [] (Bool) (fun t5 => halterref01_beyond.R t5) (fun t5 => (.adj [] (.adj [] .nil)))))))))) (.call true [] (Int) (fun t6 => halterref01_Of.R t6) (fun t6 => (.call true [] (Int) (fun t7 => halterref01_Sign.R t7) (fun t7 => (.call true [] (Int) (fun t8 => halterref01_Sign.R t8) (fun t8 => (.call true [] (Bool) (fun t9 => halterref01_beyond.R t9) (fun t9 => (.adj [] (.adj [] .nil)))))))))))) (to_goal (q := ((a2 = true → (True) ∧ (True) ∧ (True) ∧ (True) ∧ (∃ t2 : Int, (Fun cfg 25 [.one (.sc (.int .i64 (IntKind.wrap .i64 ((IntKind.wrap .i64 ((IntKind.wrap .i64 (a0)) + (IntKind.wrap .i64 (a1)))) + (1 : Int)))))] [] (halterref01_Of.R t2) [] ∧ True) ∧ (True) ∧ (True) ∧ (True) ∧ (True) ∧ (True) ∧ (∃ t3 : Int, (Fun cfg 50 [.one (.sc (.int .u32 a0))] [] (halterref01_Sign.R t3) [] ∧ True) ∧ (∃ t4 : Int, (Fun cfg 50 [.one (.sc (.int .u32 a1))] [] (halterref01_Sign.R t4) [] ∧ True) ∧ (True) ∧ (True) ∧ (∃ t5 : Bool, (Fun cfg 49 [.one (.sc (.int .i64 (IntKind.wrap .i64 ((IntKind.wrap .i64 (t3 + t4)) + (1 : Int)))))] [] (halterref01_beyond.R t5) [] ∧ True) ∧ (True ∧ ((True) ∧ (True) ∧ (.tup [.one (.sc (.int .u32 t2)), .one (.sc (.bool (decide ((IntKind.wrap .i64 ((IntKind.wrap .i64 ((IntKind.wrap .i64 (a0)) + (IntKind.wrap .i64 (a1)))) + (1 : Int))) ≥ (4294967296 : Int))))), .one (.sc (.bool t5))] : Tm) = halterref01_Add.R r ∧ ([] : List Box) = []))))))) ∧ (a2 = false → (True) ∧ (True) ∧ (True) ∧ (True) ∧ (∃ t6 : Int, (Fun cfg 25 [.one (.sc (.int .i64 (IntKind.wrap .i64 ((IntKind.wrap .i64 ((IntKind.wrap .i64 (a0)) + (IntKind.wrap .i64 (a1)))) + (0 : Int)))))] [] (halterref01_Of.R t6) [] ∧ True) ∧ (True) ∧ (True) ∧ (True) ∧ (True) ∧ (True) ∧ (∃ t7 : Int, (Fun cfg 50 [.one (.sc (.int .u32 a0))] [] (halterref01_Sign.R t7) [] ∧ True) ∧ (∃ t8 : Int, (Fun cfg 50 [.one (.sc (.int .u32 a1))] [] (halterref01_Sign.R t8) [] ∧ True) ∧ (True) ∧ (True) ∧ (∃ t9 : Bool, (Fun cfg 49 [.one (.sc (.int .i64 (IntKind.wrap .i64 ((IntKind.wrap .i64 (t7 + t8)) + (0 : Int)))))] [] (halterref01_beyond.R t9) [] ∧ True) ∧ (True ∧ ((True) ∧ (True) ∧ (.tup [.one (.sc (.int .u32 t6)), .one (.sc (.bool (decide ((IntKind.wrap .i64 ((IntKind.wrap .i64 ((IntKind.wrap .i64 (a0)) + (IntKind.wrap .i64 (a1)))) + (0 : Int))) ≥ (4294967296 : Int))))), .one (.sc (.bool t9))] : Tm) = halterref01_Add.R r ∧ ([] : List Box) = []))))))))) (by kernel_rfl) ?_)
  refine ⟨fun b1 => ?_, fun b1 => ?_⟩
  · rw [if_pos b1] at h
    refine ⟨trivial, ?_⟩
    refine ⟨trivial, ?_⟩
    refine ⟨trivial, ?_⟩
    refine ⟨trivial, ?_⟩
    obtain ⟨t2, ht2, h⟩ := of_bind h
    refine ⟨t2, ⟨halterref01_Of.fun_ ht2, trivial⟩, ?_⟩
    refine ⟨trivial, ?_⟩
    refine ⟨trivial, ?_⟩
    refine ⟨trivial, ?_⟩
    refine ⟨trivial, ?_⟩
    refine ⟨trivial, ?_⟩
    obtain ⟨t3, ht3, h⟩ := of_bind h
    refine ⟨t3, ⟨halterref01_Sign.fun_ ht3, trivial⟩, ?_⟩
    obtain ⟨t4, ht4, h⟩ := of_bind h
    refine ⟨t4, ⟨halterref01_Sign.fun_ ht4, trivial⟩, ?_⟩
    refine ⟨trivial, ?_⟩
    refine ⟨trivial, ?_⟩
    obtain ⟨t5, ht5, h⟩ := of_bind h
    refine ⟨t5, ⟨halterref01_beyond.fun_ ht5, trivial⟩, ?_⟩
    refine ⟨trivial, ?_⟩
    obtain rfl := Option.some.inj h
    exact ⟨trivial, trivial, rfl, rfl⟩
  · rw [if_neg (ff b1)] at h
    refine ⟨trivial, ?_⟩
    refine ⟨trivial, ?_⟩
    refine ⟨trivial, ?_⟩
    refine ⟨trivial, ?_⟩
    obtain ⟨t6, ht6, h⟩ := of_bind h
    refine ⟨t6, ⟨halterref01_Of.fun_ ht6, trivial⟩, ?_⟩
    refine ⟨trivial, ?_⟩
    refine ⟨trivial, ?_⟩
    refine ⟨trivial, ?_⟩
    refine ⟨trivial, ?_⟩
    refine ⟨trivial, ?_⟩
    obtain ⟨t7, ht7, h⟩ := of_bind h
    refine ⟨t7, ⟨halterref01_Sign.fun_ ht7, trivial⟩, ?_⟩
    obtain ⟨t8, ht8, h⟩ := of_bind h
    refine ⟨t8, ⟨halterref01_Sign.fun_ ht8, trivial⟩, ?_⟩
    refine ⟨trivial, ?_⟩
    refine ⟨trivial, ?_⟩
    obtain ⟨t9, ht9, h⟩ := of_bind h
    refine ⟨t9, ⟨halterref01_beyond.fun_ ht9, trivial⟩, ?_⟩
    refine ⟨trivial, ?_⟩
    obtain rfl := Option.some.inj h
    exact ⟨trivial, trivial, rfl, rfl⟩
/-! halter/halterref11.flags -/
def halterref11_flags.f (a0 : Int) (a1 : Bool) (a2 : Bool) (a3 : Int) : Option Int :=
  if a0 = (0 : Int) then
    if a0 ≥ (2147483648 : Int) then
      if a1 = true then
        if a2 = true then
          some (IntKind.wrap .u32 ((IntKind.wrap .u32 ((IntKind.wrap .u32 ((IntKind.wrap .u32 ((IntKind.wrap .u32 ((Int.tmod (IntKind.wrap .u32 (Int.tdiv a3 (16 : Int))) (2 : Int)) * (16 : Int))) + (1 : Int))) + (2 : Int))) + (4 : Int))) + (8 : Int)))
        else
          some (IntKind.wrap .u32 ((IntKind.wrap .u32 ((IntKind.wrap .u32 ((IntKind.wrap .u32 ((Int.tmod (IntKind.wrap .u32 (Int.tdiv a3 (16 : Int))) (2 : Int)) * (16 : Int))) + (1 : Int))) + (2 : Int))) + (4 : Int)))
      else
        if a2 = true then
          some (IntKind.wrap .u32 ((IntKind.wrap .u32 ((IntKind.wrap .u32 ((IntKind.wrap .u32 ((Int.tmod (IntKind.wrap .u32 (Int.tdiv a3 (16 : Int))) (2 : Int)) * (16 : Int))) + (1 : Int))) + (2 : Int))) + (8 : Int)))
        else
          some (IntKind.wrap .u32 ((IntKind.wrap .u32 ((IntKind.wrap .u32 ((Int.tmod (IntKind.wrap .u32 (Int.tdiv a3 (16 : Int))) (2 : Int)) * (16 : Int))) + (1 : Int))) + (2 : Int)))
    else
      if a1 = true then
        if a2 = true then
          some (IntKind.wrap .u32 ((IntKind.wrap .u32 ((IntKind.wrap .u32 ((IntKind.wrap .u32 ((Int.tmod (IntKind.wrap .u32 (Int.tdiv a3 (16 : Int))) (2 : Int)) * (16 : Int))) + (1 : Int))) + (4 : Int))) + (8 : Int)))
        else
          some (IntKind.wrap .u32 ((IntKind.wrap .u32 ((IntKind.wrap .u32 ((Int.tmod (IntKind.wrap .u32 (Int.tdiv a3 (16 : Int))) (2 : Int)) * (16 : Int))) + (1 : Int))) + (4 : Int)))
      else
        if a2 = true then
          some (IntKind.wrap .u32 ((IntKind.wrap .u32 ((IntKind.wrap .u32 ((Int.tmod (IntKind.wrap .u32 (Int.tdiv a3 (16 : Int))) (2 : Int)) * (16 : Int))) + (1 : Int))) + (8 : Int)))
        else
          some (IntKind.wrap .u32 ((IntKind.wrap .u32 ((Int.tmod (IntKind.wrap .u32 (Int.tdiv a3 (16 : Int))) (2 : Int)) * (16 : Int))) + (1 : Int)))
  else
    if a0 ≥ (2147483648 : Int) then
      if a1 = true then
        if a2 = true then
          some (IntKind.wrap .u32 ((IntKind.wrap .u32 ((IntKind.wrap .u32 ((IntKind.wrap .u32 ((Int.tmod (IntKind.wrap .u32 (Int.tdiv a3 (16 : Int))) (2 : Int)) * (16 : Int))) + (2 : Int))) + (4 : Int))) + (8 : Int)))
        else
          some (IntKind.wrap .u32 ((IntKind.wrap .u32 ((IntKind.wrap .u32 ((Int.tmod (IntKind.wrap .u32 (Int.tdiv a3 (16 : Int))) (2 : Int)) * (16 : Int))) + (2 : Int))) + (4 : Int)))
      else
        if a2 = true then
          some (IntKind.wrap .u32 ((IntKind.wrap .u32 ((IntKind.wrap .u32 ((Int.tmod (IntKind.wrap .u32 (Int.tdiv a3 (16 : Int))) (2 : Int)) * (16 : Int))) + (2 : Int))) + (8 : Int)))
        else
          some (IntKind.wrap .u32 ((IntKind.wrap .u32 ((Int.tmod (IntKind.wrap .u32 (Int.tdiv a3 (16 : Int))) (2 : Int)) * (16 : Int))) + (2 : Int)))
    else
      if a1 = true then
        if a2 = true then
          some (IntKind.wrap .u32 ((IntKind.wrap .u32 ((IntKind.wrap .u32 ((Int.tmod (IntKind.wrap .u32 (Int.tdiv a3 (16 : Int))) (2 : Int)) * (16 : Int))) + (4 : Int))) + (8 : Int)))
        else
          some (IntKind.wrap .u32 ((IntKind.wrap .u32 ((Int.tmod (IntKind.wrap .u32 (Int.tdiv a3 (16 : Int))) (2 : Int)) * (16 : Int))) + (4 : Int)))
      else
        if a2 = true then
          some (IntKind.wrap .u32 ((IntKind.wrap .u32 ((Int.tmod (IntKind.wrap .u32 (Int.tdiv a3 (16 : Int))) (2 : Int)) * (16 : Int))) + (8 : Int)))
        else
          some (IntKind.wrap .u32 ((Int.tmod (IntKind.wrap .u32 (Int.tdiv a3 (16 : Int))) (2 : Int)) * (16 : Int)))
def halterref11_flags.R (r : Int) : Tm := .v (.one (.sc (.int .u32 r)))
theorem halterref11_flags.fun_ {a0 : Int} {a1 : Bool} {a2 : Bool} {a3 : Int} {r : Int} (h : halterref11_flags.f a0 a1 a2 a3 = some r) : Fun cfg 28 [.one (.sc (.int .u32 a0)), .one (.sc (.bool a1)), .one (.sc (.bool a2)), .one (.sc (.int .u32 a3))] [] (halterref11_flags.R r) [] := by
  unfold halterref11_flags.f at h
  refine fun_of_run cfg_ok (f := 28) (fn := Tryd.f28) Tryd.func28 rfl (by kernel_rfl) (rs := [.tmp 8]) rfl (nt := 29) rfl (l := fin) (k := (.br (.br (.br (.br (.adj [] (.adj [] (.adj [] (.adj [] .nil)))) (.adj [] (.adj [] (.adj [] (.adj [] .nil))))) (.br (.adj [] (.adj [] (.adj [] (.adj [] .nil)))) (.adj [] (.adj [] (.adj [] (.adj [] .nil)))))) (.br (.br (.adj [] (.adj [] (.adj [] (.adj [] .nil)))) (.adj [] (.adj [] (.adj [] (.adj [] .nil))))) (.br (.adj [] (.adj [] (.adj [] (.adj [] .nil)))) (.adj [] (.adj [] (.adj [] (.adj [] .nil))))))) (.br (.br (.br (.adj [] (.adj [] (.adj [] (.adj [] .nil)))) (.adj [] (.adj [] (.adj [] (.adj [] .nil))))) (.br (.adj [] (.adj [] (.adj [] (.adj [] .nil)))) (.adj [] (.adj [] (.adj [] (.adj [] .nil)))))) (.br (.br (.adj [] (.adj [] (.adj [] (.adj [] .nil)))) (.adj [] (.adj [] (.adj [] (.adj [] .nil))))) (.br (.adj [] (.adj [] (.adj [] (.adj [] .nil)))) (.adj [] (.adj [] (.adj [] (.adj [] .nil))))))))) (to_goal (q := ((16 : Int) ≠ 0) ∧ ((2 : Int) ≠ 0) ∧ (True) ∧ (True) ∧ (((a0 == (0 : Int)) = true → (True) ∧ (True) ∧ (((decide (a0 ≥ (2147483648 : Int))) = true → (True) ∧ ((a1 = true → (True) ∧ ((a2 = true → (True ∧ (True) ∧ (True ∧ (True ∧ ((True) ∧ (True) ∧ (.v (.one (.sc (.int .u32 (IntKind.wrap .u32 ((IntKind.wrap .u32 ((IntKind.wrap .u32 ((IntKind.wrap .u32 ((IntKind.wrap .u32 ((Int.tmod (IntKind.wrap .u32 (Int.tdiv a3 (16 : Int))) (2 : Int)) * (16 : Int))) + (1 : Int))) + (2 : Int))) + (4 : Int))) + (8 : Int)))))) : Tm) = halterref11_flags.R r ∧ ([] : List Box) = []))))) ∧ (a2 = false → (True ∧ (True ∧ (True ∧ ((True) ∧ (True) ∧ (.v (.one (.sc (.int .u32 (IntKind.wrap .u32 ((IntKind.wrap .u32 ((IntKind.wrap .u32 ((IntKind.wrap .u32 ((Int.tmod (IntKind.wrap .u32 (Int.tdiv a3 (16 : Int))) (2 : Int)) * (16 : Int))) + (1 : Int))) + (2 : Int))) + (4 : Int)))))) : Tm) = halterref11_flags.R r ∧ ([] : List Box) = []))))))) ∧ (a1 = false → ((a2 = true → (True ∧ (True) ∧ (True ∧ (True ∧ ((True) ∧ (True) ∧ (.v (.one (.sc (.int .u32 (IntKind.wrap .u32 ((IntKind.wrap .u32 ((IntKind.wrap .u32 ((IntKind.wrap .u32 ((Int.tmod (IntKind.wrap .u32 (Int.tdiv a3 (16 : Int))) (2 : Int)) * (16 : Int))) + (1 : Int))) + (2 : Int))) + (8 : Int)))))) : Tm) = halterref11_flags.R r ∧ ([] : List Box) = []))))) ∧ (a2 = false → (True ∧ (True ∧ (True ∧ ((True) ∧ (True) ∧ (.v (.one (.sc (.int .u32 (IntKind.wrap .u32 ((IntKind.wrap .u32 ((IntKind.wrap .u32 ((Int.tmod (IntKind.wrap .u32 (Int.tdiv a3 (16 : Int))) (2 : Int)) * (16 : Int))) + (1 : Int))) + (2 : Int)))))) : Tm) = halterref11_flags.R r ∧ ([] : List Box) = []))))))))) ∧ ((decide (a0 ≥ (2147483648 : Int))) = false → ((a1 = true → (True) ∧ ((a2 = true → (True ∧ (True) ∧ (True ∧ (True ∧ ((True) ∧ (True) ∧ (.v (.one (.sc (.int .u32 (IntKind.wrap .u32 ((IntKind.wrap .u32 ((IntKind.wrap .u32 ((IntKind.wrap .u32 ((Int.tmod (IntKind.wrap .u32 (Int.tdiv a3 (16 : Int))) (2 : Int)) * (16 : Int))) + (1 : Int))) + (4 : Int))) + (8 : Int)))))) : Tm) = halterref11_flags.R r ∧ ([] : List Box) = []))))) ∧ (a2 = false → (True ∧ (True ∧ (True ∧ ((True) ∧ (True) ∧ (.v (.one (.sc (.int .u32 (IntKind.wrap .u32 ((IntKind.wrap .u32 ((IntKind.wrap .u32 ((Int.tmod (IntKind.wrap .u32 (Int.tdiv a3 (16 : Int))) (2 : Int)) * (16 : Int))) + (1 : Int))) + (4 : Int)))))) : Tm) = halterref11_flags.R r ∧ ([] : List Box) = []))))))) ∧ (a1 = false → ((a2 = true → (True ∧ (True) ∧ (True ∧ (True ∧ ((True) ∧ (True) ∧ (.v (.one (.sc (.int .u32 (IntKind.wrap .u32 ((IntKind.wrap .u32 ((IntKind.wrap .u32 ((Int.tmod (IntKind.wrap .u32 (Int.tdiv a3 (16 : Int))) (2 : Int)) * (16 : Int))) + (1 : Int))) + (8 : Int)))))) : Tm) = halterref11_flags.R r ∧ ([] : List Box) = []))))) ∧ (a2 = false → (True ∧ (True ∧ (True ∧ ((True) ∧ (True) ∧ (.v (.one (.sc (.int .u32 (IntKind.wrap .u32 ((IntKind.wrap .u32 ((Int.tmod (IntKind.wrap .u32 (Int.tdiv a3 (16 : Int))) (2 : Int)) * (16 : Int))) + (1 : Int)))))) : Tm) = halterref11_flags.R r ∧ ([] : List Box) = []))))))))))) ∧ ((a0 == (0 : Int)) = false → (True) ∧ (((decide (a0 ≥ (2147483648 : Int))) = true → (True) ∧ ((a1 = true → (True) ∧ ((a2 = true → (True ∧ (True) ∧ (True ∧ (True ∧ ((True) ∧ (True) ∧ (.v (.one (.sc (.int .u32 (IntKind.wrap .u32 ((IntKind.wrap .u32 ((IntKind.wrap .u32 ((IntKind.wrap .u32 ((Int.tmod (IntKind.wrap .u32 (Int.tdiv a3 (16 : Int))) (2 : Int)) * (16 : Int))) + (2 : Int))) + (4 : Int))) + (8 : Int)))))) : Tm) = halterref11_flags.R r ∧ ([] : List Box) = []))))) ∧ (a2 = false → (True ∧ (True ∧ (True ∧ ((True) ∧ (True) ∧ (.v (.one (.sc (.int .u32 (IntKind.wrap .u32 ((IntKind.wrap .u32 ((IntKind.wrap .u32 ((Int.tmod (IntKind.wrap .u32 (Int.tdiv a3 (16 : Int))) (2 : Int)) * (16 : Int))) + (2 : Int))) + (4 : Int)))))) : Tm) = halterref11_flags.R r ∧ ([] : List Box) = []))))))) ∧ (a1 = false → ((a2 = true → (True ∧ (True) ∧ (True ∧ (True ∧ ((True) ∧ (True) ∧ (.v (.one (.sc (.int .u32 (IntKind.wrap .u32 ((IntKind.wrap .u32 ((IntKind.wrap .u32 ((Int.tmod (IntKind.wrap .u32 (Int.tdiv a3 (16 : Int))) (2 : Int)) * (16 : Int))) + (2 : Int))) + (8 : Int)))))) : Tm) = halterref11_flags.R r ∧ ([] : List Box) = []))))) ∧ (a2 = false → (True ∧ (True ∧ (True ∧ ((True) ∧ (True) ∧ (.v (.one (.sc (.int .u32 (IntKind.wrap .u32 ((IntKind.wrap .u32 ((Int.tmod (IntKind.wrap .u32 (Int.tdiv a3 (16 : Int))) (2 : Int)) * (16 : Int))) + (2 : Int)))))) : Tm) = halterref11_flags.R r ∧ ([] : List Box) = []))))))))) ∧ ((decide (a0 ≥ (2147483648 : Int))) = false → ((a1 = true → (True) ∧ ((a2 = true → (True ∧ (True) ∧ (True ∧ (True ∧ ((True) ∧ (True) ∧ (.v (.one (.sc (.int .u32 (IntKind.wrap .u32 ((IntKind.wrap .u32 ((IntKind.wrap .u32 ((Int.tmod (IntKind.wrap .u32 (Int.tdiv a3 (16 : Int))) (2 : Int)) * (16 : Int))) + (4 : Int))) + (8 : Int)))))) : Tm) = halterref11_flags.R r ∧ ([] : List Box) = []))))) ∧ (a2 = false → (True ∧ (True ∧ (True ∧ ((True) ∧ (True) ∧ (.v (.one (.sc (.int .u32 (IntKind.wrap .u32 ((IntKind.wrap .u32 ((Int.tmod (IntKind.wrap .u32 (Int.tdiv a3 (16 : Int))) (2 : Int)) * (16 : Int))) + (4 : Int)))))) : Tm) = halterref11_flags.R r ∧ ([] : List Box) = []))))))) ∧ (a1 = false → ((a2 = true → (True ∧ (True) ∧ (True ∧ (True ∧ ((True) ∧ (True) ∧ (.v (.one (.sc (.int .u32 (IntKind.wrap .u32 ((IntKind.wrap .u32 ((Int.tmod (IntKind.wrap .u32 (Int.tdiv a3 (16 : Int))) (2 : Int)) * (16 : Int))) + (8 : Int)))))) : Tm) = halterref11_flags.R r ∧ ([] : List Box) = []))))) ∧ (a2 = false → (True ∧ (True ∧ (True ∧ ((True) ∧ (True) ∧ (.v (.one (.sc (.int .u32 (IntKind.wrap .u32 ((Int.tmod (IntKind.wrap .u32 (Int.tdiv a3 (16 : Int))) (2 : Int)) * (16 : Int)))))) : Tm) = halterref11_flags.R r ∧ ([] : List Box) = []))))))))))))) (by kernel_rfl) ?_)
  refine ⟨(by decide), ?_⟩
  refine ⟨(by decide), ?_⟩
  refine ⟨trivial, ?_⟩
  refine ⟨trivial, ?_⟩
  refine ⟨fun b1 => ?_, fun b1 => ?_⟩
  · rw [if_pos (beq_t b1)] at h
    refine ⟨trivial, ?_⟩
    refine ⟨trivial, ?_⟩
    refine ⟨fun b2 => ?_, fun b2 => ?_⟩
    · rw [if_pos (of_decide_eq_true b2)] at h
      refine ⟨trivial, ?_⟩
      refine ⟨fun b3 => ?_, fun b3 => ?_⟩
      · rw [if_pos b3] at h
        refine ⟨trivial, ?_⟩
        refine ⟨fun b4 => ?_, fun b4 => ?_⟩
        · rw [if_pos b4] at h
          refine ⟨trivial, ?_⟩
          refine ⟨trivial, ?_⟩
          refine ⟨trivial, ?_⟩
          refine ⟨trivial, ?_⟩
          obtain rfl := Option.some.inj h
          exact ⟨trivial, trivial, rfl, rfl⟩
        · rw [if_neg (ff b4)] at h
          refine ⟨trivial, ?_⟩
          refine ⟨trivial, ?_⟩
          refine ⟨trivial, ?_⟩
          obtain rfl := Option.some.inj h
          exact ⟨trivial, trivial, rfl, rfl⟩
      · rw [if_neg (ff b3)] at h
        refine ⟨fun b5 => ?_, fun b5 => ?_⟩
        · rw [if_pos b5] at h
          refine ⟨trivial, ?_⟩
          refine ⟨trivial, ?_⟩
          refine ⟨trivial, ?_⟩
          refine ⟨trivial, ?_⟩
          obtain rfl := Option.some.inj h
          exact ⟨trivial, trivial, rfl, rfl⟩
        · rw [if_neg (ff b5)] at h
          refine ⟨trivial, ?_⟩
          refine ⟨trivial, ?_⟩
          refine ⟨trivial, ?_⟩
          obtain rfl := Option.some.inj h
          exact ⟨trivial, trivial, rfl, rfl⟩
    · rw [if_neg (of_decide_eq_false b2)] at h
      refine ⟨fun b6 => ?_, fun b6 => ?_⟩
      · rw [if_pos b6] at h
        refine ⟨trivial, ?_⟩
        refine ⟨fun b7 => ?_, fun b7 => ?_⟩
        · rw [if_pos b7] at h
          refine ⟨trivial, ?_⟩
          refine ⟨trivial, ?_⟩
          refine ⟨trivial, ?_⟩
          refine ⟨trivial, ?_⟩
          obtain rfl := Option.some.inj h
          exact ⟨trivial, trivial, rfl, rfl⟩
        · rw [if_neg (ff b7)] at h
          refine ⟨trivial, ?_⟩
          refine ⟨trivial, ?_⟩
          refine ⟨trivial, ?_⟩
          obtain rfl := Option.some.inj h
          exact ⟨trivial, trivial, rfl, rfl⟩
      · rw [if_neg (ff b6)] at h
        refine ⟨fun b8 => ?_, fun b8 => ?_⟩
        · rw [if_pos b8] at h
          refine ⟨trivial, ?_⟩
          refine ⟨trivial, ?_⟩
          refine ⟨trivial, ?_⟩
          refine ⟨trivial, ?_⟩
          obtain rfl := Option.some.inj h
          exact ⟨trivial, trivial, rfl, rfl⟩
        · rw [if_neg (ff b8)] at h
          refine ⟨trivial, ?_⟩
          refine ⟨trivial, ?_⟩
          refine ⟨trivial, ?_⟩
          obtain rfl := Option.some.inj h
          exact ⟨trivial, trivial, rfl, rfl⟩
  · rw [if_neg (beq_f b1)] at h
    refine ⟨trivial, ?_⟩
    refine ⟨fun b9 => ?_, fun b9 => ?_⟩
    · rw [if_pos (of_decide_eq_true b9)] at h
      refine ⟨trivial, ?_⟩
      refine ⟨fun b10 => ?_, fun b10 => ?_⟩
      · rw [if_pos b10] at h
        refine ⟨trivial, ?_⟩
        refine ⟨fun b11 => ?_, fun b11 => ?_⟩
        · rw [if_pos b11] at h
          refine ⟨trivial, ?_⟩
          refine ⟨trivial, ?_⟩
          refine ⟨trivial, ?_⟩
          refine ⟨trivial, ?_⟩
          obtain rfl := Option.some.inj h
          exact ⟨trivial, trivial, rfl, rfl⟩
        · rw [if_neg (ff b11)] at h
          refine ⟨trivial, ?_⟩
          refine ⟨trivial, ?_⟩
          refine ⟨trivial, ?_⟩
          obtain rfl := Option.some.inj h
          exact ⟨trivial, trivial, rfl, rfl⟩
      · rw [if_neg (ff b10)] at h
        refine ⟨fun b12 => ?_, fun b12 => ?_⟩
        · rw [if_pos b12] at h
          refine ⟨trivial, ?_⟩
          refine ⟨trivial, ?_⟩
          refine ⟨trivial, ?_⟩
          refine ⟨trivial, ?_⟩
          obtain rfl := Option.some.inj h
          exact ⟨trivial, trivial, rfl, rfl⟩
        · rw [if_neg (ff b12)] at h
          refine ⟨trivial, ?_⟩
          refine ⟨trivial, ?_⟩
          refine ⟨trivial, ?_⟩
          obtain rfl := Option.some.inj h
          exact ⟨trivial, trivial, rfl, rfl⟩
    · rw [if_neg (of_decide_eq_false b9)] at h
      refine ⟨fun b13 => ?_, fun b13 => ?_⟩
      · rw [if_pos b13] at h
        refine ⟨trivial, ?_⟩
        refine ⟨fun b14 => ?_, fun b14 => ?_⟩
        · rw [if_pos b14] at h
          refine ⟨trivial, ?_⟩
          refine ⟨trivial, ?_⟩
          refine ⟨trivial, ?_⟩
          refine ⟨trivial, ?_⟩
          obtain rfl := Option.some.inj h
          exact ⟨trivial, trivial, rfl, rfl⟩
        · rw [if_neg (ff b14)] at h
          refine ⟨trivial, ?_⟩
          refine ⟨trivial, ?_⟩
          refine ⟨trivial, ?_⟩
          obtain rfl := Option.some.inj h
          exact ⟨trivial, trivial, rfl, rfl⟩
      · rw [if_neg (ff b13)] at h
        refine ⟨fun b15 => ?_, fun b15 => ?_⟩
        · rw [if_pos b15] at h
          refine ⟨trivial, ?_⟩
          refine ⟨trivial, ?_⟩
          refine ⟨trivial, ?_⟩
          refine ⟨trivial, ?_⟩
          obtain rfl := Option.some.inj h
          exact ⟨trivial, trivial, rfl, rfl⟩
        · rw [if_neg (ff b15)] at h
          refine ⟨trivial, ?_⟩
          refine ⟨trivial, ?_⟩
          refine ⟨trivial, ?_⟩
          obtain rfl := Option.some.inj h
          exact ⟨trivial, trivial, rfl, rfl⟩
/-! halter/halterref01.Sub -/
def halterref01_Sub.f (a0 : Int) (a1 : Int) : Option (Int × Bool × Bool) :=
  (halterref01_Of.f (IntKind.wrap .i64 ((IntKind.wrap .i64 (a0)) - (IntKind.wrap .i64 (a1))))).bind fun t1 =>
  (halterref01_Sign.f a0).bind fun t2 =>
  (halterref01_Sign.f a1).bind fun t3 =>
  (halterref01_beyond.f (IntKind.wrap .i64 (t2 - t3))).bind fun t4 =>
  some (t1, (decide (a0 < a1)), t4)
def halterref01_Sub.R (r : Int × Bool × Bool) : Tm := .tup [.one (.sc (.int .u32 r.1)), .one (.sc (.bool r.2.1)), .one (.sc (.bool r.2.2))]
theorem halterref01_Sub.fun_ {a0 : Int} {a1 : Int} {r : Int × Bool × Bool} (h : halterref01_Sub.f a0 a1 = some r) : Fun cfg 22 [.one (.sc (.int .u32 a0)), .one (.sc (.int .u32 a1))] [] (halterref01_Sub.R r) [] := by
  unfold halterref01_Sub.f at h
  refine fun_of_run cfg_ok (f := 22) (fn := Tryd.f22) Tryd.func22 rfl (by kernel_rfl) (rs := [.tmp 4, .tmp 5, .tmp 6]) rfl (nt := 22) rfl (l := fin) (k := (.call true [] (Int) (fun t1 => halterref01_Of.R t1) (fun t1 => (.call true [] (Int) (fun t2 => halterref01_Sign.R t2) (fun t2 => (.call true [] (Int) (fun t3 => halterref01_Sign.R t3) (fun t3 => (.call true [] (Bool) (fun t4 => halterref01_beyond.R t4) (fun t4 => (.adj [] (.adj [] .nil))))))))))) (to_goal (q := (True) ∧ (True) ∧ (True) ∧ (∃ t1 : Int, (Fun cfg 25 [.one (.sc (.int .i64 (IntKind.wrap .i64 ((IntKind.wrap .i64 (a0)) - (IntKind.wrap .i64 (a1))))))] [] (halterref01_Of.R t1) [] ∧ True) ∧ (True) ∧ (∃ t2 : Int, (Fun cfg 50 [.one (.sc (.int .u32 a0))] [] (halterref01_Sign.R t2) [] ∧ True) ∧ (∃ t3 : Int, (Fun cfg 50 [.one (.sc (.int .u32 a1))] [] (halterref01_Sign.R t3) [] ∧ True) ∧ (True) ∧ (∃ t4 : Bool, (Fun cfg 49 [.one (.sc (.int .i64 (IntKind.wrap .i64 (t2 - t3))))] [] (halterref01_beyond.R t4) [] ∧ True) ∧ (True ∧ ((True) ∧ (True) ∧ (.tup [.one (.sc (.int .u32 t1)), .one (.sc (.bool (decide (a0 < a1)))), .one (.sc (.bool t4))] : Tm) = halterref01_Sub.R r ∧ ([] : List Box) = []))))))) (by kernel_rfl) ?_)
  refine ⟨trivial, ?_⟩
  refine ⟨trivial, ?_⟩
  refine ⟨trivial, ?_⟩
  obtain ⟨t1, ht1, h⟩ := of_bind h
  refine ⟨t1, ⟨halterref01_Of.fun_ ht1, trivial⟩, ?_⟩
  refine ⟨trivial, ?_⟩
  obtain ⟨t2, ht2, h⟩ := of_bind h
  refine ⟨t2, ⟨halterref01_Sign.fun_ ht2, trivial⟩, ?_⟩
  obtain ⟨t3, ht3, h⟩ := of_bind h
  refine ⟨t3, ⟨halterref01_Sign.fun_ ht3, trivial⟩, ?_⟩
  refine ⟨trivial, ?_⟩
  obtain ⟨t4, ht4, h⟩ := of_bind h
  refine ⟨t4, ⟨halterref01_beyond.fun_ ht4, trivial⟩, ?_⟩
  refine ⟨trivial, ?_⟩
  obtain rfl := Option.some.inj h
  exact ⟨trivial, trivial, rfl, rfl⟩
/-! halter/halterref01.Power -/
def halterref01_Power.l0 (a0 : Int) : Nat → Int → Int → Option Int
  | 0, _, _ => none
  | n + 1, x1, x2 =>
    if x2 < a0 then
      halterref01_Power.l0 a0 n (IntKind.wrap .i64 ((2 : Int) * x1)) (IntKind.wrap .i64 (x2 + (1 : Int)))
    else
      some x1
def halterref01_Power.l0_S (a0 : Int) (x1 : Int) (x2 : Int) : St := ⟨[.v (.one (.sc (.int .i64 a0))), .any, .any, .v (.one (.sc (.int .i64 x1))), .v (.one (.sc (.int .i64 x2))), .any, .any, .any, .any, .any, .any, .any, .any], [], 0⟩
def halterref01_Power.l0_Q (a0 : Int) (t : Int) : Exit → St → Prop := fun e s => e = (.exit 0) ∧ s = ⟨[.any, .any, .any, .v (.one (.sc (.int .i64 t))), .any, .any, .any, .any, .any, .any, .any, .any, .any], [], 0⟩
theorem halterref01_Power.l0_ok (a0 : Int) : ∀ (n : Nat) (x1 : Int) (x2 : Int) (r : Int), halterref01_Power.l0 a0 n x1 x2 = some r → TripN cfg (cpath (Tryd.f26.body.getD .skip) [1, 1, 0, 1, 0, 0]) n (halterref01_Power.l0_S a0 x1 x2) (halterref01_Power.l0_Q a0 r) := by
  intro n
  induction n with
  | zero => intro x1 x2 r h; cases h
  | succ n ih =>
    intro x1 x2 r h
    rw [halterref01_Power.l0] at h
    refine TripN.of_run cfg_ok (k := (.br (.adj [] (.adj [] (.adj [] (.adj [] (.adj [.keep [0, 3, 4], .drop 0] .nil))))) (.adj [.keep [3], .drop 0] .nil))) (to_goal (q := (True) ∧ (((decide (x2 < a0)) = true → (True ∧ (True ∧ (True ∧ (True) ∧ (True ∧ (True) ∧ (((True) ∧ (True) ∧ True) ∧ TripN cfg (cpath (Tryd.f26.body.getD .skip) [1, 1, 0, 1, 0, 0]) n (halterref01_Power.l0_S a0 (IntKind.wrap .i64 ((2 : Int) * x1)) (IntKind.wrap .i64 (x2 + (1 : Int)))) (halterref01_Power.l0_Q a0 r))))))) ∧ ((decide (x2 < a0)) = false → (((True) ∧ (True) ∧ True) ∧ halterref01_Power.l0_Q a0 r (.exit 0) ⟨[.any, .any, .any, .v (.one (.sc (.int .i64 x1))), .any, .any, .any, .any, .any, .any, .any, .any, .any], [], 0⟩)))) (by kernel_rfl) ?_)
    refine ⟨trivial, ?_⟩
    refine ⟨fun b6 => ?_, fun b6 => ?_⟩
    · rw [if_pos (of_decide_eq_true b6)] at h
      refine ⟨trivial, ?_⟩
      refine ⟨trivial, ?_⟩
      refine ⟨trivial, ?_⟩
      refine ⟨trivial, ?_⟩
      refine ⟨trivial, ?_⟩
      refine ⟨trivial, ?_⟩
      exact ⟨⟨trivial, trivial, trivial⟩, ih (IntKind.wrap .i64 ((2 : Int) * x1)) (IntKind.wrap .i64 (x2 + (1 : Int))) r h⟩
    · rw [if_neg (of_decide_eq_false b6)] at h
      obtain rfl := Option.some.inj h
      exact ⟨⟨trivial, trivial, trivial⟩, rfl, rfl⟩
def halterref01_Power.f (a0 : Int) : Option Int :=
  (halterref01_Power.l0 a0 FUEL (1 : Int) (0 : Int)).bind fun t5 =>
  some t5
def halterref01_Power.R (r : Int) : Tm := .v (.one (.sc (.int .i64 r)))
theorem halterref01_Power.fun_ {a0 : Int} {r : Int} (h : halterref01_Power.f a0 = some r) : Fun cfg 26 [.one (.sc (.int .i64 a0))] [] (halterref01_Power.R r) [] := by
  unfold halterref01_Power.f at h
  refine fun_of_run cfg_ok (f := 26) (fn := Tryd.f26) Tryd.func26 rfl (by kernel_rfl) (rs := [.tmp 2]) rfl (nt := 13) rfl (l := fin) (k := (.adj [] (.adj [] (.adj [] (.adj [] (.adj [.keep [0, 3, 4]] (.sub (Int) (fun _ => (.exit 0)) (fun t5 => ⟨[.any, .any, .any, .v (.one (.sc (.int .i64 t5))), .any, .any, .any, .any, .any, .any, .any, .any, .any], [], 0⟩) (fun t5 => (.adj [] (.adj [] (.adj [] .nil))))))))))) (to_goal (q := (True ∧ (True ∧ (True ∧ (True ∧ (((True) ∧ True) ∧ (∃ t5 : Int, Trip cfg (.loop (cpath (Tryd.f26.body.getD .skip) [1, 1, 0, 1, 0, 0])) ⟨[.v (.one (.sc (.int .i64 a0))), .any, .any, .v (.one (.sc (.int .i64 (1 : Int)))), .v (.one (.sc (.int .i64 (0 : Int)))), .any, .any, .any, .any, .any, .any, .any, .any], [], 0⟩ (fun e s => e = (.exit 0) ∧ s = ⟨[.any, .any, .any, .v (.one (.sc (.int .i64 t5))), .any, .any, .any, .any, .any, .any, .any, .any, .any], [], 0⟩) ∧ (True ∧ (True ∧ ((True) ∧ (True) ∧ (.v (.one (.sc (.int .i64 t5))) : Tm) = halterref01_Power.R r ∧ ([] : List Box) = [])))))))))) (by kernel_rfl) ?_)
  refine ⟨trivial, ?_⟩
  refine ⟨trivial, ?_⟩
  refine ⟨trivial, ?_⟩
  refine ⟨trivial, ?_⟩
  obtain ⟨t5, ht5, h⟩ := of_bind h
  refine ⟨⟨trivial, trivial⟩, t5, Trip.loop FUEL (halterref01_Power.l0_ok a0 FUEL (1 : Int) (0 : Int) t5 ht5), ?_⟩
  refine ⟨trivial, ?_⟩
  refine ⟨trivial, ?_⟩
  obtain rfl := Option.some.inj h
  exact ⟨trivial, trivial, rfl, rfl⟩
/-! halter/halterref01.Mul -/
def halterref01_Mul.l0 (a0 : Int) (a1 : Int) : Nat → Int → Int → Int → Option (Int × Int)
  | 0, _, _, _ => none
  | n + 1, x1, x2, x3 =>
    if x3 < (32 : Int) then
      (halterref01_Power.f x3).bind fun t14 =>
      if t14 ≠ 0 then
        if (Int.tmod (IntKind.wrap .i64 (Int.tdiv (IntKind.wrap .i64 (a1)) t14)) (2 : Int)) = (0 : Int) then
          halterref01_Mul.l0 a0 a1 n x1 x2 (IntKind.wrap .i64 (x3 + (1 : Int)))
        else
          (halterref01_Power.f x3).bind fun t16 =>
          if x3 < (31 : Int) then
            halterref01_Mul.l0 a0 a1 n (Int.tmod (IntKind.wrap .i64 (x1 + (Int.tmod (IntKind.wrap .i64 ((IntKind.wrap .i64 (a0)) * t16)) (4294967296 : Int)))) (4294967296 : Int)) (IntKind.wrap .i64 ((IntKind.wrap .i64 (x2 + (IntKind.wrap .i64 (Int.tdiv (IntKind.wrap .i64 ((IntKind.wrap .i64 (a0)) * t16)) (4294967296 : Int))))) + (IntKind.wrap .i64 (Int.tdiv (IntKind.wrap .i64 (x1 + (Int.tmod (IntKind.wrap .i64 ((IntKind.wrap .i64 (a0)) * t16)) (4294967296 : Int)))) (4294967296 : Int))))) (IntKind.wrap .i64 (x3 + (1 : Int)))
          else
            halterref01_Mul.l0 a0 a1 n (Int.tmod (IntKind.wrap .i64 (x1 + (IntKind.wrap .i64 ((Int.tmod (IntKind.wrap .i64 (a0)) (2 : Int)) * (2147483648 : Int))))) (4294967296 : Int)) (IntKind.wrap .i64 ((IntKind.wrap .i64 (x2 + (IntKind.wrap .i64 (Int.tdiv (IntKind.wrap .i64 (a0)) (2 : Int))))) + (IntKind.wrap .i64 (Int.tdiv (IntKind.wrap .i64 (x1 + (IntKind.wrap .i64 ((Int.tmod (IntKind.wrap .i64 (a0)) (2 : Int)) * (2147483648 : Int))))) (4294967296 : Int))))) (IntKind.wrap .i64 (x3 + (1 : Int)))
      else none
    else
      some (x1, x2)
def halterref01_Mul.l0_S (a0 : Int) (a1 : Int) (x1 : Int) (x2 : Int) (x3 : Int) : St := ⟨[.v (.one (.sc (.int .u32 a0))), .v (.one (.sc (.int .u32 a1))), .any, .any, .any, .any, .v (.one (.sc (.int .i64 x1))), .v (.one (.sc (.int .i64 x2))), .v (.one (.sc (.int .i64 x3))), .any, .any, .any, .any, .any, .any, .any, .any, .any, .any, .any, .any, .any, .any, .any, .any, .any, .any, .any, .any, .any, .any, .any, .any, .any, .any, .any, .any, .any, .any, .any, .any, .any, .any, .any, .any, .any, .any, .any, .any, .any, .any, .any, .any, .any, .any, .any, .any], [], 0⟩
def halterref01_Mul.l0_Q (a0 : Int) (a1 : Int) (t : Int × Int) : Exit → St → Prop := fun e s => e = (.exit 0) ∧ s = ⟨[.any, .any, .any, .any, .any, .any, .v (.one (.sc (.int .i64 t.1))), .v (.one (.sc (.int .i64 t.2))), .any, .any, .any, .any, .any, .any, .any, .any, .any, .any, .any, .any, .any, .any, .any, .any, .any, .any, .any, .any, .any, .any, .any, .any, .any, .any, .any, .any, .any, .any, .any, .any, .any, .any, .any, .any, .any, .any, .any, .any, .any, .any, .any, .any, .any, .any, .any, .any, .any], [], 0⟩
theorem halterref01_Mul.l0_ok (a0 : Int) (a1 : Int) : ∀ (n : Nat) (x1 : Int) (x2 : Int) (x3 : Int) (r : Int × Int), halterref01_Mul.l0 a0 a1 n x1 x2 x3 = some r → TripN cfg (cpath (Tryd.f23.body.getD .skip) [1, 1, 0, 1, 0, 0]) n (halterref01_Mul.l0_S a0 a1 x1 x2 x3) (halterref01_Mul.l0_Q a0 a1 r) := by
  intro n
  induction n with
  | zero => intro x1 x2 x3 r h; cases h
  | succ n ih =>
    intro x1 x2 x3 r h
    rw [halterref01_Mul.l0] at h
    refine TripN.of_run cfg_ok (k := (.br (.call true [] (Int) (fun t14 => halterref01_Power.R t14) (fun t14 => (.br (.adj [] (.adj [] (.adj [.keep [0, 1, 6, 7, 8], .drop 0] .nil))) (.call true [] (Int) (fun t16 => halterref01_Power.R t16) (fun t16 => (.br (.adj [] (.adj [] (.adj [] (.adj [] (.adj [] (.adj [.keep [0, 1, 6, 7, 8], .drop 0] .nil)))))) (.adj [] (.adj [] (.adj [] (.adj [] (.adj [] (.adj [.keep [0, 1, 6, 7, 8], .drop 0] .nil)))))))))))) (.adj [.keep [6, 7], .drop 0] .nil))) (to_goal (q := (True) ∧ (((decide (x3 < (32 : Int))) = true → (True) ∧ (∃ t14 : Int, (Fun cfg 26 [.one (.sc (.int .i64 x3))] [] (halterref01_Power.R t14) [] ∧ True) ∧ (t14 ≠ 0) ∧ ((2 : Int) ≠ 0) ∧ (True) ∧ ((((Int.tmod (IntKind.wrap .i64 (Int.tdiv (IntKind.wrap .i64 (a1)) t14)) (2 : Int)) == (0 : Int)) = true → (True ∧ (True ∧ (True) ∧ (((True) ∧ (True) ∧ True) ∧ TripN cfg (cpath (Tryd.f23.body.getD .skip) [1, 1, 0, 1, 0, 0]) n (halterref01_Mul.l0_S a0 a1 x1 x2 (IntKind.wrap .i64 (x3 + (1 : Int)))) (halterref01_Mul.l0_Q a0 a1 r))))) ∧ (((Int.tmod (IntKind.wrap .i64 (Int.tdiv (IntKind.wrap .i64 (a1)) t14)) (2 : Int)) == (0 : Int)) = false → (True) ∧ (∃ t16 : Int, (Fun cfg 26 [.one (.sc (.int .i64 x3))] [] (halterref01_Power.R t16) [] ∧ True) ∧ (True) ∧ (True) ∧ (((decide (x3 < (31 : Int))) = true → (True ∧ ((4294967296 : Int) ≠ 0) ∧ (True) ∧ (True ∧ ((4294967296 : Int) ≠ 0) ∧ (True) ∧ (True ∧ ((4294967296 : Int) ≠ 0) ∧ (True) ∧ (True ∧ ((4294967296 : Int) ≠ 0) ∧ (True ∧ (True) ∧ (((True) ∧ (True) ∧ True) ∧ TripN cfg (cpath (Tryd.f23.body.getD .skip) [1, 1, 0, 1, 0, 0]) n (halterref01_Mul.l0_S a0 a1 (Int.tmod (IntKind.wrap .i64 (x1 + (Int.tmod (IntKind.wrap .i64 ((IntKind.wrap .i64 (a0)) * t16)) (4294967296 : Int)))) (4294967296 : Int)) (IntKind.wrap .i64 ((IntKind.wrap .i64 (x2 + (IntKind.wrap .i64 (Int.tdiv (IntKind.wrap .i64 ((IntKind.wrap .i64 (a0)) * t16)) (4294967296 : Int))))) + (IntKind.wrap .i64 (Int.tdiv (IntKind.wrap .i64 (x1 + (Int.tmod (IntKind.wrap .i64 ((IntKind.wrap .i64 (a0)) * t16)) (4294967296 : Int)))) (4294967296 : Int))))) (IntKind.wrap .i64 (x3 + (1 : Int)))) (halterref01_Mul.l0_Q a0 a1 r)))))))) ∧ ((decide (x3 < (31 : Int))) = false → (True ∧ (True) ∧ ((2 : Int) ≠ 0) ∧ (True) ∧ (True) ∧ (True ∧ (True) ∧ ((2 : Int) ≠ 0) ∧ (True) ∧ (True ∧ ((4294967296 : Int) ≠ 0) ∧ (True) ∧ (True ∧ ((4294967296 : Int) ≠ 0) ∧ (True ∧ (True) ∧ (((True) ∧ (True) ∧ True) ∧ TripN cfg (cpath (Tryd.f23.body.getD .skip) [1, 1, 0, 1, 0, 0]) n (halterref01_Mul.l0_S a0 a1 (Int.tmod (IntKind.wrap .i64 (x1 + (IntKind.wrap .i64 ((Int.tmod (IntKind.wrap .i64 (a0)) (2 : Int)) * (2147483648 : Int))))) (4294967296 : Int)) (IntKind.wrap .i64 ((IntKind.wrap .i64 (x2 + (IntKind.wrap .i64 (Int.tdiv (IntKind.wrap .i64 (a0)) (2 : Int))))) + (IntKind.wrap .i64 (Int.tdiv (IntKind.wrap .i64 (x1 + (IntKind.wrap .i64 ((Int.tmod (IntKind.wrap .i64 (a0)) (2 : Int)) * (2147483648 : Int))))) (4294967296 : Int))))) (IntKind.wrap .i64 (x3 + (1 : Int)))) (halterref01_Mul.l0_Q a0 a1 r)))))))))))))) ∧ ((decide (x3 < (32 : Int))) = false → (((True) ∧ (True) ∧ True) ∧ halterref01_Mul.l0_Q a0 a1 r (.exit 0) ⟨[.any, .any, .any, .any, .any, .any, .v (.one (.sc (.int .i64 x1))), .v (.one (.sc (.int .i64 x2))), .any, .any, .any, .any, .any, .any, .any, .any, .any, .any, .any, .any, .any, .any, .any, .any, .any, .any, .any, .any, .any, .any, .any, .any, .any, .any, .any, .any, .any, .any, .any, .any, .any, .any, .any, .any, .any, .any, .any, .any, .any, .any, .any, .any, .any, .any, .any, .any, .any], [], 0⟩)))) (by kernel_rfl) ?_)
    refine ⟨trivial, ?_⟩
    refine ⟨fun b13 => ?_, fun b13 => ?_⟩
    · rw [if_pos (of_decide_eq_true b13)] at h
      refine ⟨trivial, ?_⟩
      obtain ⟨t14, ht14, h⟩ := of_bind h
      refine ⟨t14, ⟨halterref01_Power.fun_ ht14, trivial⟩, ?_⟩
      obtain ⟨g18, h⟩ := of_guard h
      refine ⟨g18, ?_⟩
      refine ⟨(by decide), ?_⟩
      refine ⟨trivial, ?_⟩
      refine ⟨fun b15 => ?_, fun b15 => ?_⟩
      · rw [if_pos (beq_t b15)] at h
        refine ⟨trivial, ?_⟩
        refine ⟨trivial, ?_⟩
        refine ⟨trivial, ?_⟩
        exact ⟨⟨trivial, trivial, trivial⟩, ih x1 x2 (IntKind.wrap .i64 (x3 + (1 : Int))) r h⟩
      · rw [if_neg (beq_f b15)] at h
        refine ⟨trivial, ?_⟩
        obtain ⟨t16, ht16, h⟩ := of_bind h
        refine ⟨t16, ⟨halterref01_Power.fun_ ht16, trivial⟩, ?_⟩
        refine ⟨trivial, ?_⟩
        refine ⟨trivial, ?_⟩
        refine ⟨fun b17 => ?_, fun b17 => ?_⟩
        · rw [if_pos (of_decide_eq_true b17)] at h
          refine ⟨trivial, ?_⟩
          refine ⟨(by decide), ?_⟩
          refine ⟨trivial, ?_⟩
          refine ⟨trivial, ?_⟩
          refine ⟨(by decide), ?_⟩
          refine ⟨trivial, ?_⟩
          refine ⟨trivial, ?_⟩
          refine ⟨(by decide), ?_⟩
          refine ⟨trivial, ?_⟩
          refine ⟨trivial, ?_⟩
          refine ⟨(by decide), ?_⟩
          refine ⟨trivial, ?_⟩
          refine ⟨trivial, ?_⟩
          exact ⟨⟨trivial, trivial, trivial⟩, ih (Int.tmod (IntKind.wrap .i64 (x1 + (Int.tmod (IntKind.wrap .i64 ((IntKind.wrap .i64 (a0)) * t16)) (4294967296 : Int)))) (4294967296 : Int)) (IntKind.wrap .i64 ((IntKind.wrap .i64 (x2 + (IntKind.wrap .i64 (Int.tdiv (IntKind.wrap .i64 ((IntKind.wrap .i64 (a0)) * t16)) (4294967296 : Int))))) + (IntKind.wrap .i64 (Int.tdiv (IntKind.wrap .i64 (x1 + (Int.tmod (IntKind.wrap .i64 ((IntKind.wrap .i64 (a0)) * t16)) (4294967296 : Int)))) (4294967296 : Int))))) (IntKind.wrap .i64 (x3 + (1 : Int))) r h⟩
        · rw [if_neg (of_decide_eq_false b17)] at h
          refine ⟨trivial, ?_⟩
          refine ⟨trivial, ?_⟩
          refine ⟨(by decide), ?_⟩
          refine ⟨trivial, ?_⟩
          refine ⟨trivial, ?_⟩
          refine ⟨trivial, ?_⟩
          refine ⟨trivial, ?_⟩
          refine ⟨(by decide), ?_⟩
          refine ⟨trivial, ?_⟩
          refine ⟨trivial, ?_⟩
          refine ⟨(by decide), ?_⟩
          refine ⟨trivial, ?_⟩
          refine ⟨trivial, ?_⟩
          refine ⟨(by decide), ?_⟩
          refine ⟨trivial, ?_⟩
          refine ⟨trivial, ?_⟩
          exact ⟨⟨trivial, trivial, trivial⟩, ih (Int.tmod (IntKind.wrap .i64 (x1 + (IntKind.wrap .i64 ((Int.tmod (IntKind.wrap .i64 (a0)) (2 : Int)) * (2147483648 : Int))))) (4294967296 : Int)) (IntKind.wrap .i64 ((IntKind.wrap .i64 (x2 + (IntKind.wrap .i64 (Int.tdiv (IntKind.wrap .i64 (a0)) (2 : Int))))) + (IntKind.wrap .i64 (Int.tdiv (IntKind.wrap .i64 (x1 + (IntKind.wrap .i64 ((Int.tmod (IntKind.wrap .i64 (a0)) (2 : Int)) * (2147483648 : Int))))) (4294967296 : Int))))) (IntKind.wrap .i64 (x3 + (1 : Int))) r h⟩
    · rw [if_neg (of_decide_eq_false b13)] at h
      obtain rfl := Option.some.inj h
      exact ⟨⟨trivial, trivial, trivial⟩, rfl, rfl⟩
def halterref01_Mul.f (a0 : Int) (a1 : Int) : Option (Int × Int) :=
  (halterref01_Mul.l0 a0 a1 FUEL (0 : Int) (0 : Int) (0 : Int)).bind fun t12 =>
  some ((IntKind.wrap .u32 (t12.1)), (IntKind.wrap .u32 (t12.2)))
def halterref01_Mul.R (r : Int × Int) : Tm := .tup [.one (.sc (.int .u32 r.1)), .one (.sc (.int .u32 r.2))]
theorem halterref01_Mul.fun_ {a0 : Int} {a1 : Int} {r : Int × Int} (h : halterref01_Mul.f a0 a1 = some r) : Fun cfg 23 [.one (.sc (.int .u32 a0)), .one (.sc (.int .u32 a1))] [] (halterref01_Mul.R r) [] := by
  unfold halterref01_Mul.f at h
  refine fun_of_run cfg_ok (f := 23) (fn := Tryd.f23) Tryd.func23 rfl (by kernel_rfl) (rs := [.tmp 4, .tmp 5]) rfl (nt := 57) rfl (l := fin) (k := (.adj [] (.adj [] (.adj [] (.adj [] (.adj [.keep [0, 1, 6, 7, 8]] (.sub (Int × Int) (fun _ => (.exit 0)) (fun t12 => ⟨[.any, .any, .any, .any, .any, .any, .v (.one (.sc (.int .i64 t12.1))), .v (.one (.sc (.int .i64 t12.2))), .any, .any, .any, .any, .any, .any, .any, .any, .any, .any, .any, .any, .any, .any, .any, .any, .any, .any, .any, .any, .any, .any, .any, .any, .any, .any, .any, .any, .any, .any, .any, .any, .any, .any, .any, .any, .any, .any, .any, .any, .any, .any, .any, .any, .any, .any, .any, .any, .any], [], 0⟩) (fun t12 => (.adj [] (.adj [] (.adj [] .nil))))))))))) (to_goal (q := (True ∧ (True ∧ (True ∧ (True ∧ (((True) ∧ True) ∧ (∃ t12 : Int × Int, Trip cfg (.loop (cpath (Tryd.f23.body.getD .skip) [1, 1, 0, 1, 0, 0])) ⟨[.v (.one (.sc (.int .u32 a0))), .v (.one (.sc (.int .u32 a1))), .any, .any, .any, .any, .v (.one (.sc (.int .i64 (0 : Int)))), .v (.one (.sc (.int .i64 (0 : Int)))), .v (.one (.sc (.int .i64 (0 : Int)))), .any, .any, .any, .any, .any, .any, .any, .any, .any, .any, .any, .any, .any, .any, .any, .any, .any, .any, .any, .any, .any, .any, .any, .any, .any, .any, .any, .any, .any, .any, .any, .any, .any, .any, .any, .any, .any, .any, .any, .any, .any, .any, .any, .any, .any, .any, .any, .any], [], 0⟩ (fun e s => e = (.exit 0) ∧ s = ⟨[.any, .any, .any, .any, .any, .any, .v (.one (.sc (.int .i64 t12.1))), .v (.one (.sc (.int .i64 t12.2))), .any, .any, .any, .any, .any, .any, .any, .any, .any, .any, .any, .any, .any, .any, .any, .any, .any, .any, .any, .any, .any, .any, .any, .any, .any, .any, .any, .any, .any, .any, .any, .any, .any, .any, .any, .any, .any, .any, .any, .any, .any, .any, .any, .any, .any, .any, .any, .any, .any], [], 0⟩) ∧ (True ∧ (True) ∧ (True) ∧ (True ∧ ((True) ∧ (True) ∧ (.tup [.one (.sc (.int .u32 (IntKind.wrap .u32 (t12.1)))), .one (.sc (.int .u32 (IntKind.wrap .u32 (t12.2))))] : Tm) = halterref01_Mul.R r ∧ ([] : List Box) = [])))))))))) (by kernel_rfl) ?_)
  refine ⟨trivial, ?_⟩
  refine ⟨trivial, ?_⟩
  refine ⟨trivial, ?_⟩
  refine ⟨trivial, ?_⟩
  obtain ⟨t12, ht12, h⟩ := of_bind h
  refine ⟨⟨trivial, trivial⟩, t12, Trip.loop FUEL (halterref01_Mul.l0_ok a0 a1 FUEL (0 : Int) (0 : Int) (0 : Int) t12 ht12), ?_⟩
  refine ⟨trivial, ?_⟩
  refine ⟨trivial, ?_⟩
  refine ⟨trivial, ?_⟩
  refine ⟨trivial, ?_⟩
  obtain rfl := Option.some.inj h
  exact ⟨trivial, trivial, rfl, rfl⟩
/-! halter/halterref11.bit -/
def halterref11_bit.c0 (a0 : Int) (t25 : Int) (a1 : Int) (t27 : Int) : Bool := (decide ((IntKind.wrap .i64 ((Int.tmod (IntKind.wrap .i64 (Int.tdiv (IntKind.wrap .i64 (a0)) t25)) (2 : Int)) + (Int.tmod (IntKind.wrap .i64 (Int.tdiv (IntKind.wrap .i64 (a1)) t27)) (2 : Int)))) > (0 : Int)))
def halterref11_bit.c1 (a0 : Int) (t25 : Int) (a1 : Int) (t27 : Int) : Bool := ((IntKind.wrap .i64 ((Int.tmod (IntKind.wrap .i64 (Int.tdiv (IntKind.wrap .i64 (a0)) t25)) (2 : Int)) + (Int.tmod (IntKind.wrap .i64 (Int.tdiv (IntKind.wrap .i64 (a1)) t27)) (2 : Int)))) == (2 : Int))
def halterref11_bit.c2 (a0 : Int) (t25 : Int) (a1 : Int) (t27 : Int) : Bool := ((IntKind.wrap .i64 ((Int.tmod (IntKind.wrap .i64 (Int.tdiv (IntKind.wrap .i64 (a0)) t25)) (2 : Int)) + (Int.tmod (IntKind.wrap .i64 (Int.tdiv (IntKind.wrap .i64 (a1)) t27)) (2 : Int)))) == (1 : Int))
def halterref11_bit.l0 (a0 : Int) (a1 : Int) (a2 : Int) : Nat → Int → Int → Option Int
  | 0, _, _ => none
  | n + 1, x1, x2 =>
    if x2 ≥ (0 : Int) then
      (halterref01_Power.f x2).bind fun t25 =>
      if t25 ≠ 0 then
        (halterref01_Power.f x2).bind fun t27 =>
        if t27 ≠ 0 then
          if a2 = (0 : Int) then
            if (IntKind.wrap .i64 ((Int.tmod (IntKind.wrap .i64 (Int.tdiv (IntKind.wrap .i64 (a0)) t25)) (2 : Int)) + (Int.tmod (IntKind.wrap .i64 (Int.tdiv (IntKind.wrap .i64 (a1)) t27)) (2 : Int)))) = (2 : Int) then
              halterref11_bit.l0 a0 a1 a2 n (IntKind.wrap .u32 ((IntKind.wrap .u32 ((2 : Int) * x1)) + (1 : Int))) (IntKind.wrap .i64 (x2 - (1 : Int)))
            else
              if a2 = (1 : Int) then
                if (IntKind.wrap .i64 ((Int.tmod (IntKind.wrap .i64 (Int.tdiv (IntKind.wrap .i64 (a0)) t25)) (2 : Int)) + (Int.tmod (IntKind.wrap .i64 (Int.tdiv (IntKind.wrap .i64 (a1)) t27)) (2 : Int)))) > (0 : Int) then
                  halterref11_bit.l0 a0 a1 a2 n (IntKind.wrap .u32 ((IntKind.wrap .u32 ((2 : Int) * x1)) + (1 : Int))) (IntKind.wrap .i64 (x2 - (1 : Int)))
                else
                  if a2 = (2 : Int) then
                    if (IntKind.wrap .i64 ((Int.tmod (IntKind.wrap .i64 (Int.tdiv (IntKind.wrap .i64 (a0)) t25)) (2 : Int)) + (Int.tmod (IntKind.wrap .i64 (Int.tdiv (IntKind.wrap .i64 (a1)) t27)) (2 : Int)))) = (1 : Int) then
                      halterref11_bit.l0 a0 a1 a2 n (IntKind.wrap .u32 ((IntKind.wrap .u32 ((2 : Int) * x1)) + (1 : Int))) (IntKind.wrap .i64 (x2 - (1 : Int)))
                    else
                      halterref11_bit.l0 a0 a1 a2 n (IntKind.wrap .u32 ((2 : Int) * x1)) (IntKind.wrap .i64 (x2 - (1 : Int)))
                  else
                    halterref11_bit.l0 a0 a1 a2 n (IntKind.wrap .u32 ((2 : Int) * x1)) (IntKind.wrap .i64 (x2 - (1 : Int)))
              else
                if a2 = (2 : Int) then
                  if (IntKind.wrap .i64 ((Int.tmod (IntKind.wrap .i64 (Int.tdiv (IntKind.wrap .i64 (a0)) t25)) (2 : Int)) + (Int.tmod (IntKind.wrap .i64 (Int.tdiv (IntKind.wrap .i64 (a1)) t27)) (2 : Int)))) = (1 : Int) then
                    halterref11_bit.l0 a0 a1 a2 n (IntKind.wrap .u32 ((IntKind.wrap .u32 ((2 : Int) * x1)) + (1 : Int))) (IntKind.wrap .i64 (x2 - (1 : Int)))
                  else
                    halterref11_bit.l0 a0 a1 a2 n (IntKind.wrap .u32 ((2 : Int) * x1)) (IntKind.wrap .i64 (x2 - (1 : Int)))
                else
                  halterref11_bit.l0 a0 a1 a2 n (IntKind.wrap .u32 ((2 : Int) * x1)) (IntKind.wrap .i64 (x2 - (1 : Int)))
          else
            if a2 = (1 : Int) then
              if (IntKind.wrap .i64 ((Int.tmod (IntKind.wrap .i64 (Int.tdiv (IntKind.wrap .i64 (a0)) t25)) (2 : Int)) + (Int.tmod (IntKind.wrap .i64 (Int.tdiv (IntKind.wrap .i64 (a1)) t27)) (2 : Int)))) > (0 : Int) then
                halterref11_bit.l0 a0 a1 a2 n (IntKind.wrap .u32 ((IntKind.wrap .u32 ((2 : Int) * x1)) + (1 : Int))) (IntKind.wrap .i64 (x2 - (1 : Int)))
              else
                if a2 = (2 : Int) then
                  if (IntKind.wrap .i64 ((Int.tmod (IntKind.wrap .i64 (Int.tdiv (IntKind.wrap .i64 (a0)) t25)) (2 : Int)) + (Int.tmod (IntKind.wrap .i64 (Int.tdiv (IntKind.wrap .i64 (a1)) t27)) (2 : Int)))) = (1 : Int) then
                    halterref11_bit.l0 a0 a1 a2 n (IntKind.wrap .u32 ((IntKind.wrap .u32 ((2 : Int) * x1)) + (1 : Int))) (IntKind.wrap .i64 (x2 - (1 : Int)))
                  else
                    halterref11_bit.l0 a0 a1 a2 n (IntKind.wrap .u32 ((2 : Int) * x1)) (IntKind.wrap .i64 (x2 - (1 : Int)))
                else
                  halterref11_bit.l0 a0 a1 a2 n (IntKind.wrap .u32 ((2 : Int) * x1)) (IntKind.wrap .i64 (x2 - (1 : Int)))
            else
              if a2 = (2 : Int) then
                if (IntKind.wrap .i64 ((Int.tmod (IntKind.wrap .i64 (Int.tdiv (IntKind.wrap .i64 (a0)) t25)) (2 : Int)) + (Int.tmod (IntKind.wrap .i64 (Int.tdiv (IntKind.wrap .i64 (a1)) t27)) (2 : Int)))) = (1 : Int) then
                  halterref11_bit.l0 a0 a1 a2 n (IntKind.wrap .u32 ((IntKind.wrap .u32 ((2 : Int) * x1)) + (1 : Int))) (IntKind.wrap .i64 (x2 - (1 : Int)))
                else
                  halterref11_bit.l0 a0 a1 a2 n (IntKind.wrap .u32 ((2 : Int) * x1)) (IntKind.wrap .i64 (x2 - (1 : Int)))
              else
                halterref11_bit.l0 a0 a1 a2 n (IntKind.wrap .u32 ((2 : Int) * x1)) (IntKind.wrap .i64 (x2 - (1 : Int)))
        else none
      else none
    else
      some x1
def halterref11_bit.l0_S (a0 : Int) (a1 : Int) (a2 : Int) (x1 : Int) (x2 : Int) : St := ⟨[.v (.one (.sc (.int .u32 a0))), .v (.one (.sc (.int .u32 a1))), .v (.one (.sc (.int .i64 a2))), .any, .any, .any, .any, .v (.one (.sc (.int .u32 x1))), .v (.one (.sc (.int .i64 x2))), .any, .any, .any, .any, .any, .any, .any, .any, .any, .any, .any, .any, .any, .any, .any, .any, .any, .any, .any, .any, .any, .any, .any, .any, .any, .any, .any, .any, .any, .any, .any, .any, .any, .any, .any, .any, .any, .any, .any, .any, .any, .any, .any, .any, .any, .any, .any, .any, .any, .any, .any], [], 0⟩
def halterref11_bit.l0_Q (a0 : Int) (a1 : Int) (a2 : Int) (t : Int) : Exit → St → Prop := fun e s => e = (.exit 0) ∧ s = ⟨[.any, .any, .any, .any, .any, .any, .any, .v (.one (.sc (.int .u32 t))), .any, .any, .any, .any, .any, .any, .any, .any, .any, .any, .any, .any, .any, .any, .any, .any, .any, .any, .any, .any, .any, .any, .any, .any, .any, .any, .any, .any, .any, .any, .any, .any, .any, .any, .any, .any, .any, .any, .any, .any, .any, .any, .any, .any, .any, .any, .any, .any, .any, .any, .any, .any], [], 0⟩
theorem halterref11_bit.l0_ok (a0 : Int) (a1 : Int) (a2 : Int) : ∀ (n : Nat) (x1 : Int) (x2 : Int) (r : Int), halterref11_bit.l0 a0 a1 a2 n x1 x2 = some r → TripN cfg (cpath (Tryd.f24.body.getD .skip) [1, 1, 0, 1, 0, 0]) n (halterref11_bit.l0_S a0 a1 a2 x1 x2) (halterref11_bit.l0_Q a0 a1 a2 r) := by
  intro n
  induction n with
  | zero => intro x1 x2 r h; cases h
  | succ n ih =>
    intro x1 x2 r h
    rw [halterref11_bit.l0] at h
    refine TripN.of_run cfg_ok (k := (.br (.ex (Int) (fun t25 => (.ex (Int) (fun t27 => (.dr [(0, dN), (1, dN), (2, dN), (3, ⟨none, .callP true [] (halterref01_Power.R t25), false⟩), (4, dN), (5, dN), (6, dN), (7, dN), (8, dN), (9, ⟨none, .callP true [] (halterref01_Power.R t27), false⟩), (10, dN), (11, dN), (12, dN), (13, dN)] (.br (.one true (.one true (.one true (.one true (.br (.one true (.one true (.one true (.one true (.one true (.one true (.one true (.one true (.one true (.one true (.adj [] (.adj [] (.adj [.keep [0, 1, 2, 7, 8], .drop 0] .nil))))))))))))) (.one false (.one false (.br (.one true (.one true (.one true (.one false (.one true (.one false (.br (.one true (.one true (.one true (.one true (.one true (.adj [] (.adj [] (.adj [.keep [0, 1, 2, 7, 8], .drop 0] .nil)))))))) (.one false (.one false (.br (.one true (.one true (.one true (.one false (.one true (.one false (.br (.adj [] (.adj [] (.adj [.keep [0, 1, 2, 7, 8], .drop 0] .nil))) (.adj [] (.adj [] (.adj [.keep [0, 1, 2, 7, 8], .drop 0] .nil)))))))))) (.one false (.one false (.one false (.one false (.one false (.one false (.one false (.adj [] (.adj [] (.adj [.keep [0, 1, 2, 7, 8], .drop 0] .nil)))))))))))))))))))) (.one false (.one false (.one false (.one false (.one false (.one false (.one false (.one false (.one false (.br (.one true (.one true (.one true (.one false (.one true (.one false (.br (.adj [] (.adj [] (.adj [.keep [0, 1, 2, 7, 8], .drop 0] .nil))) (.adj [] (.adj [] (.adj [.keep [0, 1, 2, 7, 8], .drop 0] .nil)))))))))) (.one false (.one false (.one false (.one false (.one false (.one false (.one false (.adj [] (.adj [] (.adj [.keep [0, 1, 2, 7, 8], .drop 0] .nil)))))))))))))))))))))))))))) (.one false (.one false (.one false (.one false (.one false (.one false (.one false (.br (.one true (.one true (.one true (.one false (.one true (.one false (.br (.one true (.one true (.one true (.one true (.one true (.adj [] (.adj [] (.adj [.keep [0, 1, 2, 7, 8], .drop 0] .nil)))))))) (.one false (.one false (.br (.one true (.one true (.one true (.one false (.one true (.one false (.br (.adj [] (.adj [] (.adj [.keep [0, 1, 2, 7, 8], .drop 0] .nil))) (.adj [] (.adj [] (.adj [.keep [0, 1, 2, 7, 8], .drop 0] .nil)))))))))) (.one false (.one false (.one false (.one false (.one false (.one false (.one false (.adj [] (.adj [] (.adj [.keep [0, 1, 2, 7, 8], .drop 0] .nil)))))))))))))))))))) (.one false (.one false (.one false (.one false (.one false (.one false (.one false (.one false (.one false (.br (.one true (.one true (.one true (.one false (.one true (.one false (.br (.adj [] (.adj [] (.adj [.keep [0, 1, 2, 7, 8], .drop 0] .nil))) (.adj [] (.adj [] (.adj [.keep [0, 1, 2, 7, 8], .drop 0] .nil)))))))))) (.one false (.one false (.one false (.one false (.one false (.one false (.one false (.adj [] (.adj [] (.adj [.keep [0, 1, 2, 7, 8], .drop 0] .nil)))))))))))))))))))))))))))))))))) (.adj [.keep [7], .drop 0] .nil))) (to_goal (q := (True) ∧ (((decide (x2 ≥ (0 : Int))) = true → (∃ t25 : Int, (∃ t27 : Int, (True) ∧ (Fun cfg 26 [.one (.sc (.int .i64 x2))] [] (halterref01_Power.R t25) [] ∧ True) ∧ (t25 ≠ 0) ∧ ((2 : Int) ≠ 0) ∧ (True) ∧ (Fun cfg 26 [.one (.sc (.int .i64 x2))] [] (halterref01_Power.R t27) [] ∧ True) ∧ (t27 ≠ 0) ∧ ((2 : Int) ≠ 0) ∧ (True) ∧ (True) ∧ (((a2 == (0 : Int)) = true → ((a2 == (0 : Int)) = true ∧ ((a2 == (0 : Int)) = true ∧ (True) ∧ ((a2 == (0 : Int)) = true ∧ (True) ∧ ((a2 == (0 : Int)) = true ∧ (((halterref11_bit.c1 a0 t25 a1 t27) = false → ((halterref11_bit.c1 a0 t25 a1 t27) = false ∧ (True) ∧ ((halterref11_bit.c1 a0 t25 a1 t27) = false ∧ (((a2 == (1 : Int)) = true → ((a2 == (1 : Int)) = true ∧ ((a2 == (1 : Int)) = true ∧ (True) ∧ ((a2 == (1 : Int)) = true ∧ (True) ∧ ((halterref11_bit.c1 a0 t25 a1 t27) = false ∧ ((a2 == (1 : Int)) = true ∧ ((halterref11_bit.c1 a0 t25 a1 t27) = false ∧ (((halterref11_bit.c0 a0 t25 a1 t27) = false → ((halterref11_bit.c0 a0 t25 a1 t27) = false ∧ (True) ∧ ((halterref11_bit.c0 a0 t25 a1 t27) = false ∧ (((a2 == (2 : Int)) = true → ((a2 == (2 : Int)) = true ∧ ((a2 == (2 : Int)) = true ∧ (True) ∧ ((a2 == (2 : Int)) = true ∧ (True) ∧ ((halterref11_bit.c0 a0 t25 a1 t27) = false ∧ ((a2 == (2 : Int)) = true ∧ ((halterref11_bit.c0 a0 t25 a1 t27) = false ∧ (((halterref11_bit.c2 a0 t25 a1 t27) = true → (True ∧ (True) ∧ (True ∧ (True) ∧ (((True) ∧ (True) ∧ True) ∧ TripN cfg (cpath (Tryd.f24.body.getD .skip) [1, 1, 0, 1, 0, 0]) n (halterref11_bit.l0_S a0 a1 a2 (IntKind.wrap .u32 ((IntKind.wrap .u32 ((2 : Int) * x1)) + (1 : Int))) (IntKind.wrap .i64 (x2 - (1 : Int)))) (halterref11_bit.l0_Q a0 a1 a2 r))))) ∧ ((halterref11_bit.c2 a0 t25 a1 t27) = false → (True ∧ (True ∧ (True) ∧ (((True) ∧ (True) ∧ True) ∧ TripN cfg (cpath (Tryd.f24.body.getD .skip) [1, 1, 0, 1, 0, 0]) n (halterref11_bit.l0_S a0 a1 a2 (IntKind.wrap .u32 ((2 : Int) * x1)) (IntKind.wrap .i64 (x2 - (1 : Int)))) (halterref11_bit.l0_Q a0 a1 a2 r))))))))))))) ∧ ((a2 == (2 : Int)) = false → ((a2 == (2 : Int)) = false ∧ ((a2 == (2 : Int)) = false ∧ ((a2 == (2 : Int)) = false ∧ ((halterref11_bit.c0 a0 t25 a1 t27) = false ∧ ((a2 == (2 : Int)) = false ∧ ((halterref11_bit.c0 a0 t25 a1 t27) = false ∧ (false = false ∧ (True ∧ (True ∧ (True) ∧ (((True) ∧ (True) ∧ True) ∧ TripN cfg (cpath (Tryd.f24.body.getD .skip) [1, 1, 0, 1, 0, 0]) n (halterref11_bit.l0_S a0 a1 a2 (IntKind.wrap .u32 ((2 : Int) * x1)) (IntKind.wrap .i64 (x2 - (1 : Int)))) (halterref11_bit.l0_Q a0 a1 a2 r)))))))))))))))) ∧ ((halterref11_bit.c0 a0 t25 a1 t27) = true → ((halterref11_bit.c0 a0 t25 a1 t27) = true ∧ ((halterref11_bit.c0 a0 t25 a1 t27) = true ∧ ((halterref11_bit.c0 a0 t25 a1 t27) = true ∧ ((halterref11_bit.c0 a0 t25 a1 t27) = true ∧ (true = true ∧ (True ∧ (True) ∧ (True ∧ (True) ∧ (((True) ∧ (True) ∧ True) ∧ TripN cfg (cpath (Tryd.f24.body.getD .skip) [1, 1, 0, 1, 0, 0]) n (halterref11_bit.l0_S a0 a1 a2 (IntKind.wrap .u32 ((IntKind.wrap .u32 ((2 : Int) * x1)) + (1 : Int))) (IntKind.wrap .i64 (x2 - (1 : Int)))) (halterref11_bit.l0_Q a0 a1 a2 r)))))))))))))))))) ∧ ((a2 == (1 : Int)) = false → ((a2 == (1 : Int)) = false ∧ ((a2 == (1 : Int)) = false ∧ ((a2 == (1 : Int)) = false ∧ ((halterref11_bit.c1 a0 t25 a1 t27) = false ∧ ((a2 == (1 : Int)) = false ∧ ((halterref11_bit.c1 a0 t25 a1 t27) = false ∧ (false = false ∧ (false = false ∧ (True) ∧ (false = false ∧ (((a2 == (2 : Int)) = true → ((a2 == (2 : Int)) = true ∧ ((a2 == (2 : Int)) = true ∧ (True) ∧ ((a2 == (2 : Int)) = true ∧ (True) ∧ (false = false ∧ ((a2 == (2 : Int)) = true ∧ (false = false ∧ (((halterref11_bit.c2 a0 t25 a1 t27) = true → (True ∧ (True) ∧ (True ∧ (True) ∧ (((True) ∧ (True) ∧ True) ∧ TripN cfg (cpath (Tryd.f24.body.getD .skip) [1, 1, 0, 1, 0, 0]) n (halterref11_bit.l0_S a0 a1 a2 (IntKind.wrap .u32 ((IntKind.wrap .u32 ((2 : Int) * x1)) + (1 : Int))) (IntKind.wrap .i64 (x2 - (1 : Int)))) (halterref11_bit.l0_Q a0 a1 a2 r))))) ∧ ((halterref11_bit.c2 a0 t25 a1 t27) = false → (True ∧ (True ∧ (True) ∧ (((True) ∧ (True) ∧ True) ∧ TripN cfg (cpath (Tryd.f24.body.getD .skip) [1, 1, 0, 1, 0, 0]) n (halterref11_bit.l0_S a0 a1 a2 (IntKind.wrap .u32 ((2 : Int) * x1)) (IntKind.wrap .i64 (x2 - (1 : Int)))) (halterref11_bit.l0_Q a0 a1 a2 r))))))))))))) ∧ ((a2 == (2 : Int)) = false → ((a2 == (2 : Int)) = false ∧ ((a2 == (2 : Int)) = false ∧ ((a2 == (2 : Int)) = false ∧ (false = false ∧ ((a2 == (2 : Int)) = false ∧ (false = false ∧ (false = false ∧ (True ∧ (True ∧ (True) ∧ (((True) ∧ (True) ∧ True) ∧ TripN cfg (cpath (Tryd.f24.body.getD .skip) [1, 1, 0, 1, 0, 0]) n (halterref11_bit.l0_S a0 a1 a2 (IntKind.wrap .u32 ((2 : Int) * x1)) (IntKind.wrap .i64 (x2 - (1 : Int)))) (halterref11_bit.l0_Q a0 a1 a2 r))))))))))))))))))))))))))) ∧ ((halterref11_bit.c1 a0 t25 a1 t27) = true → ((halterref11_bit.c1 a0 t25 a1 t27) = true ∧ ((halterref11_bit.c1 a0 t25 a1 t27) = true ∧ ((halterref11_bit.c1 a0 t25 a1 t27) = true ∧ ((halterref11_bit.c1 a0 t25 a1 t27) = true ∧ (true = true ∧ (true = true ∧ (true = true ∧ (true = true ∧ (true = true ∧ (true = true ∧ (True ∧ (True) ∧ (True ∧ (True) ∧ (((True) ∧ (True) ∧ True) ∧ TripN cfg (cpath (Tryd.f24.body.getD .skip) [1, 1, 0, 1, 0, 0]) n (halterref11_bit.l0_S a0 a1 a2 (IntKind.wrap .u32 ((IntKind.wrap .u32 ((2 : Int) * x1)) + (1 : Int))) (IntKind.wrap .i64 (x2 - (1 : Int)))) (halterref11_bit.l0_Q a0 a1 a2 r))))))))))))))))))))) ∧ ((a2 == (0 : Int)) = false → ((a2 == (0 : Int)) = false ∧ ((a2 == (0 : Int)) = false ∧ ((a2 == (0 : Int)) = false ∧ ((a2 == (0 : Int)) = false ∧ (false = false ∧ (false = false ∧ (True) ∧ (false = false ∧ (((a2 == (1 : Int)) = true → ((a2 == (1 : Int)) = true ∧ ((a2 == (1 : Int)) = true ∧ (True) ∧ ((a2 == (1 : Int)) = true ∧ (True) ∧ (false = false ∧ ((a2 == (1 : Int)) = true ∧ (false = false ∧ (((halterref11_bit.c0 a0 t25 a1 t27) = false → ((halterref11_bit.c0 a0 t25 a1 t27) = false ∧ (True) ∧ ((halterref11_bit.c0 a0 t25 a1 t27) = false ∧ (((a2 == (2 : Int)) = true → ((a2 == (2 : Int)) = true ∧ ((a2 == (2 : Int)) = true ∧ (True) ∧ ((a2 == (2 : Int)) = true ∧ (True) ∧ ((halterref11_bit.c0 a0 t25 a1 t27) = false ∧ ((a2 == (2 : Int)) = true ∧ ((halterref11_bit.c0 a0 t25 a1 t27) = false ∧ (((halterref11_bit.c2 a0 t25 a1 t27) = true → (True ∧ (True) ∧ (True ∧ (True) ∧ (((True) ∧ (True) ∧ True) ∧ TripN cfg (cpath (Tryd.f24.body.getD .skip) [1, 1, 0, 1, 0, 0]) n (halterref11_bit.l0_S a0 a1 a2 (IntKind.wrap .u32 ((IntKind.wrap .u32 ((2 : Int) * x1)) + (1 : Int))) (IntKind.wrap .i64 (x2 - (1 : Int)))) (halterref11_bit.l0_Q a0 a1 a2 r))))) ∧ ((halterref11_bit.c2 a0 t25 a1 t27) = false → (True ∧ (True ∧ (True) ∧ (((True) ∧ (True) ∧ True) ∧ TripN cfg (cpath (Tryd.f24.body.getD .skip) [1, 1, 0, 1, 0, 0]) n (halterref11_bit.l0_S a0 a1 a2 (IntKind.wrap .u32 ((2 : Int) * x1)) (IntKind.wrap .i64 (x2 - (1 : Int)))) (halterref11_bit.l0_Q a0 a1 a2 r))))))))))))) ∧ ((a2 == (2 : Int)) = false → ((a2 == (2 : Int)) = false ∧ ((a2 == (2 : Int)) = false ∧ ((a2 == (2 : Int)) = false ∧ ((halterref11_bit.c0 a0 t25 a1 t27) = false ∧ ((a2 == (2 : Int)) = false ∧ ((halterref11_bit.c0 a0 t25 a1 t27) = false ∧ (false = false ∧ (True ∧ (True ∧ (True) ∧ (((True) ∧ (True) ∧ True) ∧ TripN cfg (cpath (Tryd.f24.body.getD .skip) [1, 1, 0, 1, 0, 0]) n (halterref11_bit.l0_S a0 a1 a2 (IntKind.wrap .u32 ((2 : Int) * x1)) (IntKind.wrap .i64 (x2 - (1 : Int)))) (halterref11_bit.l0_Q a0 a1 a2 r)))))))))))))))) ∧ ((halterref11_bit.c0 a0 t25 a1 t27) = true → ((halterref11_bit.c0 a0 t25 a1 t27) = true ∧ ((halterref11_bit.c0 a0 t25 a1 t27) = true ∧ ((halterref11_bit.c0 a0 t25 a1 t27) = true ∧ ((halterref11_bit.c0 a0 t25 a1 t27) = true ∧ (true = true ∧ (True ∧ (True) ∧ (True ∧ (True) ∧ (((True) ∧ (True) ∧ True) ∧ TripN cfg (cpath (Tryd.f24.body.getD .skip) [1, 1, 0, 1, 0, 0]) n (halterref11_bit.l0_S a0 a1 a2 (IntKind.wrap .u32 ((IntKind.wrap .u32 ((2 : Int) * x1)) + (1 : Int))) (IntKind.wrap .i64 (x2 - (1 : Int)))) (halterref11_bit.l0_Q a0 a1 a2 r)))))))))))))))))) ∧ ((a2 == (1 : Int)) = false → ((a2 == (1 : Int)) = false ∧ ((a2 == (1 : Int)) = false ∧ ((a2 == (1 : Int)) = false ∧ (false = false ∧ ((a2 == (1 : Int)) = false ∧ (false = false ∧ (false = false ∧ (false = false ∧ (True) ∧ (false = false ∧ (((a2 == (2 : Int)) = true → ((a2 == (2 : Int)) = true ∧ ((a2 == (2 : Int)) = true ∧ (True) ∧ ((a2 == (2 : Int)) = true ∧ (True) ∧ (false = false ∧ ((a2 == (2 : Int)) = true ∧ (false = false ∧ (((halterref11_bit.c2 a0 t25 a1 t27) = true → (True ∧ (True) ∧ (True ∧ (True) ∧ (((True) ∧ (True) ∧ True) ∧ TripN cfg (cpath (Tryd.f24.body.getD .skip) [1, 1, 0, 1, 0, 0]) n (halterref11_bit.l0_S a0 a1 a2 (IntKind.wrap .u32 ((IntKind.wrap .u32 ((2 : Int) * x1)) + (1 : Int))) (IntKind.wrap .i64 (x2 - (1 : Int)))) (halterref11_bit.l0_Q a0 a1 a2 r))))) ∧ ((halterref11_bit.c2 a0 t25 a1 t27) = false → (True ∧ (True ∧ (True) ∧ (((True) ∧ (True) ∧ True) ∧ TripN cfg (cpath (Tryd.f24.body.getD .skip) [1, 1, 0, 1, 0, 0]) n (halterref11_bit.l0_S a0 a1 a2 (IntKind.wrap .u32 ((2 : Int) * x1)) (IntKind.wrap .i64 (x2 - (1 : Int)))) (halterref11_bit.l0_Q a0 a1 a2 r))))))))))))) ∧ ((a2 == (2 : Int)) = false → ((a2 == (2 : Int)) = false ∧ ((a2 == (2 : Int)) = false ∧ ((a2 == (2 : Int)) = false ∧ (false = false ∧ ((a2 == (2 : Int)) = false ∧ (false = false ∧ (false = false ∧ (True ∧ (True ∧ (True) ∧ (((True) ∧ (True) ∧ True) ∧ TripN cfg (cpath (Tryd.f24.body.getD .skip) [1, 1, 0, 1, 0, 0]) n (halterref11_bit.l0_S a0 a1 a2 (IntKind.wrap .u32 ((2 : Int) * x1)) (IntKind.wrap .i64 (x2 - (1 : Int)))) (halterref11_bit.l0_Q a0 a1 a2 r)))))))))))))))))))))))))))))))))))) ∧ ((decide (x2 ≥ (0 : Int))) = false → (((True) ∧ (True) ∧ True) ∧ halterref11_bit.l0_Q a0 a1 a2 r (.exit 0) ⟨[.any, .any, .any, .any, .any, .any, .any, .v (.one (.sc (.int .u32 x1))), .any, .any, .any, .any, .any, .any, .any, .any, .any, .any, .any, .any, .any, .any, .any, .any, .any, .any, .any, .any, .any, .any, .any, .any, .any, .any, .any, .any, .any, .any, .any, .any, .any, .any, .any, .any, .any, .any, .any, .any, .any, .any, .any, .any, .any, .any, .any, .any, .any, .any, .any, .any], [], 0⟩)))) (by kernel_rfl) ?_)
    refine ⟨trivial, ?_⟩
    refine ⟨fun b24 => ?_, fun b24 => ?_⟩
    · rw [if_pos (of_decide_eq_true b24)] at h
      obtain ⟨t25, ht25, h⟩ := of_bind h
      refine ⟨t25, ?_⟩
      obtain ⟨g26, h⟩ := of_guard h
      obtain ⟨t27, ht27, h⟩ := of_bind h
      refine ⟨t27, ?_⟩
      obtain ⟨g28, h⟩ := of_guard h
      refine ⟨trivial, ⟨halterref01_Power.fun_ ht25, trivial⟩, g26, (by decide), trivial, ⟨halterref01_Power.fun_ ht27, trivial⟩, g28, (by decide), ?_⟩
      refine ⟨trivial, ?_⟩
      refine ⟨trivial, ?_⟩
      refine ⟨fun b29 => ?_, fun b29 => ?_⟩
      · rw [if_pos (beq_t b29)] at h
        refine ⟨b29, ?_⟩
        refine ⟨b29, ?_⟩
        refine ⟨trivial, ?_⟩
        refine ⟨b29, ?_⟩
        refine ⟨trivial, ?_⟩
        refine ⟨b29, ?_⟩
        refine ⟨fun b30 => ?_, fun b30 => ?_⟩
        · rw [if_neg (beq_f b30)] at h
          refine ⟨b30, ?_⟩
          refine ⟨trivial, ?_⟩
          refine ⟨b30, ?_⟩
          refine ⟨fun b31 => ?_, fun b31 => ?_⟩
          · rw [if_pos (beq_t b31)] at h
            refine ⟨b31, ?_⟩
            refine ⟨b31, ?_⟩
            refine ⟨trivial, ?_⟩
            refine ⟨b31, ?_⟩
            refine ⟨trivial, ?_⟩
            refine ⟨b30, ?_⟩
            refine ⟨b31, ?_⟩
            refine ⟨b30, ?_⟩
            refine ⟨fun b32 => ?_, fun b32 => ?_⟩
            · rw [if_neg (of_decide_eq_false b32)] at h
              refine ⟨b32, ?_⟩
              refine ⟨trivial, ?_⟩
              refine ⟨b32, ?_⟩
              refine ⟨fun b33 => ?_, fun b33 => ?_⟩
              · rw [if_pos (beq_t b33)] at h
                refine ⟨b33, ?_⟩
                refine ⟨b33, ?_⟩
                refine ⟨trivial, ?_⟩
                refine ⟨b33, ?_⟩
                refine ⟨trivial, ?_⟩
                refine ⟨b32, ?_⟩
                refine ⟨b33, ?_⟩
                refine ⟨b32, ?_⟩
                refine ⟨fun b34 => ?_, fun b34 => ?_⟩
                · rw [if_pos (beq_t b34)] at h
                  refine ⟨trivial, ?_⟩
                  refine ⟨trivial, ?_⟩
                  refine ⟨trivial, ?_⟩
                  refine ⟨trivial, ?_⟩
                  exact ⟨⟨trivial, trivial, trivial⟩, ih (IntKind.wrap .u32 ((IntKind.wrap .u32 ((2 : Int) * x1)) + (1 : Int))) (IntKind.wrap .i64 (x2 - (1 : Int))) r h⟩
                · rw [if_neg (beq_f b34)] at h
                  refine ⟨trivial, ?_⟩
                  refine ⟨trivial, ?_⟩
                  refine ⟨trivial, ?_⟩
                  exact ⟨⟨trivial, trivial, trivial⟩, ih (IntKind.wrap .u32 ((2 : Int) * x1)) (IntKind.wrap .i64 (x2 - (1 : Int))) r h⟩
              · rw [if_neg (beq_f b33)] at h
                refine ⟨b33, ?_⟩
                refine ⟨b33, ?_⟩
                refine ⟨b33, ?_⟩
                refine ⟨b32, ?_⟩
                refine ⟨b33, ?_⟩
                refine ⟨b32, ?_⟩
                refine ⟨rfl, ?_⟩
                refine ⟨trivial, ?_⟩
                refine ⟨trivial, ?_⟩
                refine ⟨trivial, ?_⟩
                exact ⟨⟨trivial, trivial, trivial⟩, ih (IntKind.wrap .u32 ((2 : Int) * x1)) (IntKind.wrap .i64 (x2 - (1 : Int))) r h⟩
            · rw [if_pos (of_decide_eq_true b32)] at h
              refine ⟨b32, ?_⟩
              refine ⟨b32, ?_⟩
              refine ⟨b32, ?_⟩
              refine ⟨b32, ?_⟩
              refine ⟨rfl, ?_⟩
              refine ⟨trivial, ?_⟩
              refine ⟨trivial, ?_⟩
              refine ⟨trivial, ?_⟩
              refine ⟨trivial, ?_⟩
              exact ⟨⟨trivial, trivial, trivial⟩, ih (IntKind.wrap .u32 ((IntKind.wrap .u32 ((2 : Int) * x1)) + (1 : Int))) (IntKind.wrap .i64 (x2 - (1 : Int))) r h⟩
          · rw [if_neg (beq_f b31)] at h
            refine ⟨b31, ?_⟩
            refine ⟨b31, ?_⟩
            refine ⟨b31, ?_⟩
            refine ⟨b30, ?_⟩
            refine ⟨b31, ?_⟩
            refine ⟨b30, ?_⟩
            refine ⟨rfl, ?_⟩
            refine ⟨rfl, ?_⟩
            refine ⟨trivial, ?_⟩
            refine ⟨rfl, ?_⟩
            refine ⟨fun b35 => ?_, fun b35 => ?_⟩
            · rw [if_pos (beq_t b35)] at h
              refine ⟨b35, ?_⟩
              refine ⟨b35, ?_⟩
              refine ⟨trivial, ?_⟩
              refine ⟨b35, ?_⟩
              refine ⟨trivial, ?_⟩
              refine ⟨rfl, ?_⟩
              refine ⟨b35, ?_⟩
              refine ⟨rfl, ?_⟩
              refine ⟨fun b36 => ?_, fun b36 => ?_⟩
              · rw [if_pos (beq_t b36)] at h
                refine ⟨trivial, ?_⟩
                refine ⟨trivial, ?_⟩
                refine ⟨trivial, ?_⟩
                refine ⟨trivial, ?_⟩
                exact ⟨⟨trivial, trivial, trivial⟩, ih (IntKind.wrap .u32 ((IntKind.wrap .u32 ((2 : Int) * x1)) + (1 : Int))) (IntKind.wrap .i64 (x2 - (1 : Int))) r h⟩
              · rw [if_neg (beq_f b36)] at h
                refine ⟨trivial, ?_⟩
                refine ⟨trivial, ?_⟩
                refine ⟨trivial, ?_⟩
                exact ⟨⟨trivial, trivial, trivial⟩, ih (IntKind.wrap .u32 ((2 : Int) * x1)) (IntKind.wrap .i64 (x2 - (1 : Int))) r h⟩
            · rw [if_neg (beq_f b35)] at h
              refine ⟨b35, ?_⟩
              refine ⟨b35, ?_⟩
              refine ⟨b35, ?_⟩
              refine ⟨rfl, ?_⟩
              refine ⟨b35, ?_⟩
              refine ⟨rfl, ?_⟩
              refine ⟨rfl, ?_⟩
              refine ⟨trivial, ?_⟩
              refine ⟨trivial, ?_⟩
              refine ⟨trivial, ?_⟩
              exact ⟨⟨trivial, trivial, trivial⟩, ih (IntKind.wrap .u32 ((2 : Int) * x1)) (IntKind.wrap .i64 (x2 - (1 : Int))) r h⟩
        · rw [if_pos (beq_t b30)] at h
          refine ⟨b30, ?_⟩
          refine ⟨b30, ?_⟩
          refine ⟨b30, ?_⟩
          refine ⟨b30, ?_⟩
          refine ⟨rfl, ?_⟩
          refine ⟨rfl, ?_⟩
          refine ⟨rfl, ?_⟩
          refine ⟨rfl, ?_⟩
          refine ⟨rfl, ?_⟩
          refine ⟨rfl, ?_⟩
          refine ⟨trivial, ?_⟩
          refine ⟨trivial, ?_⟩
          refine ⟨trivial, ?_⟩
          refine ⟨trivial, ?_⟩
          exact ⟨⟨trivial, trivial, trivial⟩, ih (IntKind.wrap .u32 ((IntKind.wrap .u32 ((2 : Int) * x1)) + (1 : Int))) (IntKind.wrap .i64 (x2 - (1 : Int))) r h⟩
      · rw [if_neg (beq_f b29)] at h
        refine ⟨b29, ?_⟩
        refine ⟨b29, ?_⟩
        refine ⟨b29, ?_⟩
        refine ⟨b29, ?_⟩
        refine ⟨rfl, ?_⟩
        refine ⟨rfl, ?_⟩
        refine ⟨trivial, ?_⟩
        refine ⟨rfl, ?_⟩
        refine ⟨fun b37 => ?_, fun b37 => ?_⟩
        · rw [if_pos (beq_t b37)] at h
          refine ⟨b37, ?_⟩
          refine ⟨b37, ?_⟩
          refine ⟨trivial, ?_⟩
          refine ⟨b37, ?_⟩
          refine ⟨trivial, ?_⟩
          refine ⟨rfl, ?_⟩
          refine ⟨b37, ?_⟩
          refine ⟨rfl, ?_⟩
          refine ⟨fun b38 => ?_, fun b38 => ?_⟩
          · rw [if_neg (of_decide_eq_false b38)] at h
            refine ⟨b38, ?_⟩
            refine ⟨trivial, ?_⟩
            refine ⟨b38, ?_⟩
            refine ⟨fun b39 => ?_, fun b39 => ?_⟩
            · rw [if_pos (beq_t b39)] at h
              refine ⟨b39, ?_⟩
              refine ⟨b39, ?_⟩
              refine ⟨trivial, ?_⟩
              refine ⟨b39, ?_⟩
              refine ⟨trivial, ?_⟩
              refine ⟨b38, ?_⟩
              refine ⟨b39, ?_⟩
              refine ⟨b38, ?_⟩
              refine ⟨fun b40 => ?_, fun b40 => ?_⟩
              · rw [if_pos (beq_t b40)] at h
                refine ⟨trivial, ?_⟩
                refine ⟨trivial, ?_⟩
                refine ⟨trivial, ?_⟩
                refine ⟨trivial, ?_⟩
                exact ⟨⟨trivial, trivial, trivial⟩, ih (IntKind.wrap .u32 ((IntKind.wrap .u32 ((2 : Int) * x1)) + (1 : Int))) (IntKind.wrap .i64 (x2 - (1 : Int))) r h⟩
              · rw [if_neg (beq_f b40)] at h
                refine ⟨trivial, ?_⟩
                refine ⟨trivial, ?_⟩
                refine ⟨trivial, ?_⟩
                exact ⟨⟨trivial, trivial, trivial⟩, ih (IntKind.wrap .u32 ((2 : Int) * x1)) (IntKind.wrap .i64 (x2 - (1 : Int))) r h⟩
            · rw [if_neg (beq_f b39)] at h
              refine ⟨b39, ?_⟩
              refine ⟨b39, ?_⟩
              refine ⟨b39, ?_⟩
              refine ⟨b38, ?_⟩
              refine ⟨b39, ?_⟩
              refine ⟨b38, ?_⟩
              refine ⟨rfl, ?_⟩
              refine ⟨trivial, ?_⟩
              refine ⟨trivial, ?_⟩
              refine ⟨trivial, ?_⟩
              exact ⟨⟨trivial, trivial, trivial⟩, ih (IntKind.wrap .u32 ((2 : Int) * x1)) (IntKind.wrap .i64 (x2 - (1 : Int))) r h⟩
          · rw [if_pos (of_decide_eq_true b38)] at h
            refine ⟨b38, ?_⟩
            refine ⟨b38, ?_⟩
            refine ⟨b38, ?_⟩
            refine ⟨b38, ?_⟩
            refine ⟨rfl, ?_⟩
            refine ⟨trivial, ?_⟩
            refine ⟨trivial, ?_⟩
            refine ⟨trivial, ?_⟩
            refine ⟨trivial, ?_⟩
            exact ⟨⟨trivial, trivial, trivial⟩, ih (IntKind.wrap .u32 ((IntKind.wrap .u32 ((2 : Int) * x1)) + (1 : Int))) (IntKind.wrap .i64 (x2 - (1 : Int))) r h⟩
        · rw [if_neg (beq_f b37)] at h
          refine ⟨b37, ?_⟩
          refine ⟨b37, ?_⟩
          refine ⟨b37, ?_⟩
          refine ⟨rfl, ?_⟩
          refine ⟨b37, ?_⟩
          refine ⟨rfl, ?_⟩
          refine ⟨rfl, ?_⟩
          refine ⟨rfl, ?_⟩
          refine ⟨trivial, ?_⟩
          refine ⟨rfl, ?_⟩
          refine ⟨fun b41 => ?_, fun b41 => ?_⟩
          · rw [if_pos (beq_t b41)] at h
            refine ⟨b41, ?_⟩
            refine ⟨b41, ?_⟩
            refine ⟨trivial, ?_⟩
            refine ⟨b41, ?_⟩
            refine ⟨trivial, ?_⟩
            refine ⟨rfl, ?_⟩
            refine ⟨b41, ?_⟩
            refine ⟨rfl, ?_⟩
            refine ⟨fun b42 => ?_, fun b42 => ?_⟩
            · rw [if_pos (beq_t b42)] at h
              refine ⟨trivial, ?_⟩
              refine ⟨trivial, ?_⟩
              refine ⟨trivial, ?_⟩
              refine ⟨trivial, ?_⟩
              exact ⟨⟨trivial, trivial, trivial⟩, ih (IntKind.wrap .u32 ((IntKind.wrap .u32 ((2 : Int) * x1)) + (1 : Int))) (IntKind.wrap .i64 (x2 - (1 : Int))) r h⟩
            · rw [if_neg (beq_f b42)] at h
              refine ⟨trivial, ?_⟩
              refine ⟨trivial, ?_⟩
              refine ⟨trivial, ?_⟩
              exact ⟨⟨trivial, trivial, trivial⟩, ih (IntKind.wrap .u32 ((2 : Int) * x1)) (IntKind.wrap .i64 (x2 - (1 : Int))) r h⟩
          · rw [if_neg (beq_f b41)] at h
            refine ⟨b41, ?_⟩
            refine ⟨b41, ?_⟩
            refine ⟨b41, ?_⟩
            refine ⟨rfl, ?_⟩
            refine ⟨b41, ?_⟩
            refine ⟨rfl, ?_⟩
            refine ⟨rfl, ?_⟩
            refine ⟨trivial, ?_⟩
            refine ⟨trivial, ?_⟩
            refine ⟨trivial, ?_⟩
            exact ⟨⟨trivial, trivial, trivial⟩, ih (IntKind.wrap .u32 ((2 : Int) * x1)) (IntKind.wrap .i64 (x2 - (1 : Int))) r h⟩
    · rw [if_neg (of_decide_eq_false b24)] at h
      obtain rfl := Option.some.inj h
      exact ⟨⟨trivial, trivial, trivial⟩, rfl, rfl⟩
def halterref11_bit.f (a0 : Int) (a1 : Int) (a2 : Int) : Option Int :=
  (halterref11_bit.l0 a0 a1 a2 FUEL (0 : Int) (31 : Int)).bind fun t23 =>
  some t23
def halterref11_bit.R (r : Int) : Tm := .v (.one (.sc (.int .u32 r)))
theorem halterref11_bit.fun_ {a0 : Int} {a1 : Int} {a2 : Int} {r : Int} (h : halterref11_bit.f a0 a1 a2 = some r) : Fun cfg 24 [.one (.sc (.int .u32 a0)), .one (.sc (.int .u32 a1)), .one (.sc (.int .i64 a2))] [] (halterref11_bit.R r) [] := by
  unfold halterref11_bit.f at h
  refine fun_of_run cfg_ok (f := 24) (fn := Tryd.f24) Tryd.func24 rfl (by kernel_rfl) (rs := [.tmp 6]) rfl (nt := 60) rfl (l := fin) (k := (.adj [] (.adj [] (.adj [] (.adj [] (.adj [.keep [0, 1, 2, 7, 8]] (.sub (Int) (fun _ => (.exit 0)) (fun t23 => ⟨[.any, .any, .any, .any, .any, .any, .any, .v (.one (.sc (.int .u32 t23))), .any, .any, .any, .any, .any, .any, .any, .any, .any, .any, .any, .any, .any, .any, .any, .any, .any, .any, .any, .any, .any, .any, .any, .any, .any, .any, .any, .any, .any, .any, .any, .any, .any, .any, .any, .any, .any, .any, .any, .any, .any, .any, .any, .any, .any, .any, .any, .any, .any, .any, .any, .any], [], 0⟩) (fun t23 => (.adj [] (.adj [] (.adj [] .nil))))))))))) (to_goal (q := (True ∧ (True ∧ (True ∧ (True ∧ (((True) ∧ True) ∧ (∃ t23 : Int, Trip cfg (.loop (cpath (Tryd.f24.body.getD .skip) [1, 1, 0, 1, 0, 0])) ⟨[.v (.one (.sc (.int .u32 a0))), .v (.one (.sc (.int .u32 a1))), .v (.one (.sc (.int .i64 a2))), .any, .any, .any, .any, .v (.one (.sc (.int .u32 (0 : Int)))), .v (.one (.sc (.int .i64 (31 : Int)))), .any, .any, .any, .any, .any, .any, .any, .any, .any, .any, .any, .any, .any, .any, .any, .any, .any, .any, .any, .any, .any, .any, .any, .any, .any, .any, .any, .any, .any, .any, .any, .any, .any, .any, .any, .any, .any, .any, .any, .any, .any, .any, .any, .any, .any, .any, .any, .any, .any, .any, .any], [], 0⟩ (fun e s => e = (.exit 0) ∧ s = ⟨[.any, .any, .any, .any, .any, .any, .any, .v (.one (.sc (.int .u32 t23))), .any, .any, .any, .any, .any, .any, .any, .any, .any, .any, .any, .any, .any, .any, .any, .any, .any, .any, .any, .any, .any, .any, .any, .any, .any, .any, .any, .any, .any, .any, .any, .any, .any, .any, .any, .any, .any, .any, .any, .any, .any, .any, .any, .any, .any, .any, .any, .any, .any, .any, .any, .any], [], 0⟩) ∧ (True ∧ (True ∧ ((True) ∧ (True) ∧ (.v (.one (.sc (.int .u32 t23))) : Tm) = halterref11_bit.R r ∧ ([] : List Box) = [])))))))))) (by kernel_rfl) ?_)
  refine ⟨trivial, ?_⟩
  refine ⟨trivial, ?_⟩
  refine ⟨trivial, ?_⟩
  refine ⟨trivial, ?_⟩
  obtain ⟨t23, ht23, h⟩ := of_bind h
  refine ⟨⟨trivial, trivial⟩, t23, Trip.loop FUEL (halterref11_bit.l0_ok a0 a1 a2 FUEL (0 : Int) (31 : Int) t23 ht23), ?_⟩
  refine ⟨trivial, ?_⟩
  refine ⟨trivial, ?_⟩
  obtain rfl := Option.some.inj h
  exact ⟨trivial, trivial, rfl, rfl⟩
/-! halter/halterref01.low -/
def halterref01_low.f (a0 : Int) : Option Int :=
  if (Int.tmod a0 (32 : Int)) < (0 : Int) then
    some (IntKind.wrap .i64 ((Int.tmod a0 (32 : Int)) + (32 : Int)))
  else
    some (Int.tmod a0 (32 : Int))
def halterref01_low.R (r : Int) : Tm := .v (.one (.sc (.int .i64 r)))
theorem halterref01_low.fun_ {a0 : Int} {r : Int} (h : halterref01_low.f a0 = some r) : Fun cfg 51 [.one (.sc (.int .i64 a0))] [] (halterref01_low.R r) [] := by
  unfold halterref01_low.f at h
  refine fun_of_run cfg_ok (f := 51) (fn := Tryd.f51) Tryd.func51 rfl (by kernel_rfl) (rs := [.tmp 2]) rfl (nt := 11) rfl (l := fin) (k := (.br (.adj [] (.adj [] (.adj [] (.adj [] .nil)))) (.adj [] (.adj [] (.adj [] (.adj [] .nil)))))) (to_goal (q := ((32 : Int) ≠ 0) ∧ (True) ∧ (((decide ((Int.tmod a0 (32 : Int)) < (0 : Int))) = true → (True ∧ (True) ∧ (True ∧ (True ∧ ((True) ∧ (True) ∧ (.v (.one (.sc (.int .i64 (IntKind.wrap .i64 ((Int.tmod a0 (32 : Int)) + (32 : Int)))))) : Tm) = halterref01_low.R r ∧ ([] : List Box) = []))))) ∧ ((decide ((Int.tmod a0 (32 : Int)) < (0 : Int))) = false → (True ∧ (True ∧ (True ∧ ((True) ∧ (True) ∧ (.v (.one (.sc (.int .i64 (Int.tmod a0 (32 : Int))))) : Tm) = halterref01_low.R r ∧ ([] : List Box) = []))))))) (by kernel_rfl) ?_)
  refine ⟨(by decide), ?_⟩
  refine ⟨trivial, ?_⟩
  refine ⟨fun b1 => ?_, fun b1 => ?_⟩
  · rw [if_pos (of_decide_eq_true b1)] at h
    refine ⟨trivial, ?_⟩
    refine ⟨trivial, ?_⟩
    refine ⟨trivial, ?_⟩
    refine ⟨trivial, ?_⟩
    obtain rfl := Option.some.inj h
    exact ⟨trivial, trivial, rfl, rfl⟩
  · rw [if_neg (of_decide_eq_false b1)] at h
    refine ⟨trivial, ?_⟩
    refine ⟨trivial, ?_⟩
    refine ⟨trivial, ?_⟩
    obtain rfl := Option.some.inj h
    exact ⟨trivial, trivial, rfl, rfl⟩
/-! halter/halterref01.Sar -/
def halterref01_Sar.l0 (a1 : Int) : Nat → Int → Int → Option Int
  | 0, _, _ => none
  | n + 1, x1, x2 =>
    (halterref01_low.f a1).bind fun t7 =>
    if x2 < t7 then
      halterref01_Sar.l0 a1 n (IntKind.wrap .u32 ((IntKind.wrap .i64 ((IntKind.wrap .i64 (Int.tdiv (IntKind.wrap .i64 (x1)) (2 : Int))) + (IntKind.wrap .i64 ((IntKind.wrap .i64 (Int.tdiv (IntKind.wrap .i64 (x1)) (2147483648 : Int))) * (2147483648 : Int))))))) (IntKind.wrap .i64 (x2 + (1 : Int)))
    else
      some x1
def halterref01_Sar.l0_S (a1 : Int) (x1 : Int) (x2 : Int) : St := ⟨[.v (.one (.sc (.int .u32 x1))), .v (.one (.sc (.int .i64 a1))), .any, .any, .any, .v (.one (.sc (.int .i64 x2))), .any, .any, .any, .any, .any, .any, .any, .any, .any, .any, .any, .any, .any, .any, .any, .any], [], 0⟩
def halterref01_Sar.l0_Q (a1 : Int) (t : Int) : Exit → St → Prop := fun e s => e = (.exit 0) ∧ s = ⟨[.v (.one (.sc (.int .u32 t))), .any, .any, .any, .any, .any, .any, .any, .any, .any, .any, .any, .any, .any, .any, .any, .any, .any, .any, .any, .any, .any], [], 0⟩
theorem halterref01_Sar.l0_ok (a1 : Int) : ∀ (n : Nat) (x1 : Int) (x2 : Int) (r : Int), halterref01_Sar.l0 a1 n x1 x2 = some r → TripN cfg (cpath (Tryd.f27.body.getD .skip) [1, 0, 1, 0, 0]) n (halterref01_Sar.l0_S a1 x1 x2) (halterref01_Sar.l0_Q a1 r) := by
  intro n
  induction n with
  | zero => intro x1 x2 r h; cases h
  | succ n ih =>
    intro x1 x2 r h
    rw [halterref01_Sar.l0] at h
    refine TripN.of_run cfg_ok (k := (.call true [] (Int) (fun t7 => halterref01_low.R t7) (fun t7 => (.br (.adj [] (.adj [] (.adj [] (.adj [] (.adj [.keep [0, 1, 5], .drop 0] .nil))))) (.adj [.keep [0], .drop 0] .nil))))) (to_goal (q := (∃ t7 : Int, (Fun cfg 51 [.one (.sc (.int .i64 a1))] [] (halterref01_low.R t7) [] ∧ True) ∧ (True) ∧ (((decide (x2 < t7)) = true → (True ∧ (True ∧ (True ∧ (True) ∧ ((2 : Int) ≠ 0) ∧ (True) ∧ ((2147483648 : Int) ≠ 0) ∧ (True) ∧ (True) ∧ (True) ∧ (True ∧ (True) ∧ (((True) ∧ (True) ∧ True) ∧ TripN cfg (cpath (Tryd.f27.body.getD .skip) [1, 0, 1, 0, 0]) n (halterref01_Sar.l0_S a1 (IntKind.wrap .u32 ((IntKind.wrap .i64 ((IntKind.wrap .i64 (Int.tdiv (IntKind.wrap .i64 (x1)) (2 : Int))) + (IntKind.wrap .i64 ((IntKind.wrap .i64 (Int.tdiv (IntKind.wrap .i64 (x1)) (2147483648 : Int))) * (2147483648 : Int))))))) (IntKind.wrap .i64 (x2 + (1 : Int)))) (halterref01_Sar.l0_Q a1 r))))))) ∧ ((decide (x2 < t7)) = false → (((True) ∧ (True) ∧ True) ∧ halterref01_Sar.l0_Q a1 r (.exit 0) ⟨[.v (.one (.sc (.int .u32 x1))), .any, .any, .any, .any, .any, .any, .any, .any, .any, .any, .any, .any, .any, .any, .any, .any, .any, .any, .any, .any, .any], [], 0⟩))))) (by kernel_rfl) ?_)
    obtain ⟨t7, ht7, h⟩ := of_bind h
    refine ⟨t7, ⟨halterref01_low.fun_ ht7, trivial⟩, ?_⟩
    refine ⟨trivial, ?_⟩
    refine ⟨fun b8 => ?_, fun b8 => ?_⟩
    · rw [if_pos (of_decide_eq_true b8)] at h
      refine ⟨trivial, ?_⟩
      refine ⟨trivial, ?_⟩
      refine ⟨trivial, ?_⟩
      refine ⟨trivial, ?_⟩
      refine ⟨(by decide), ?_⟩
      refine ⟨trivial, ?_⟩
      refine ⟨(by decide), ?_⟩
      refine ⟨trivial, ?_⟩
      refine ⟨trivial, ?_⟩
      refine ⟨trivial, ?_⟩
      refine ⟨trivial, ?_⟩
      refine ⟨trivial, ?_⟩
      exact ⟨⟨trivial, trivial, trivial⟩, ih (IntKind.wrap .u32 ((IntKind.wrap .i64 ((IntKind.wrap .i64 (Int.tdiv (IntKind.wrap .i64 (x1)) (2 : Int))) + (IntKind.wrap .i64 ((IntKind.wrap .i64 (Int.tdiv (IntKind.wrap .i64 (x1)) (2147483648 : Int))) * (2147483648 : Int))))))) (IntKind.wrap .i64 (x2 + (1 : Int))) r h⟩
    · rw [if_neg (of_decide_eq_false b8)] at h
      obtain rfl := Option.some.inj h
      exact ⟨⟨trivial, trivial, trivial⟩, rfl, rfl⟩
def halterref01_Sar.f (a0 : Int) (a1 : Int) : Option Int :=
  (halterref01_Sar.l0 a1 FUEL a0 (0 : Int)).bind fun t6 =>
  some t6
def halterref01_Sar.R (r : Int) : Tm := .v (.one (.sc (.int .u32 r)))
theorem halterref01_Sar.fun_ {a0 : Int} {a1 : Int} {r : Int} (h : halterref01_Sar.f a0 a1 = some r) : Fun cfg 27 [.one (.sc (.int .u32 a0)), .one (.sc (.int .i64 a1))] [] (halterref01_Sar.R r) [] := by
  unfold halterref01_Sar.f at h
  refine fun_of_run cfg_ok (f := 27) (fn := Tryd.f27) Tryd.func27 rfl (by kernel_rfl) (rs := [.tmp 4]) rfl (nt := 22) rfl (l := fin) (k := (.adj [] (.adj [] (.adj [] (.adj [.keep [0, 1, 5]] (.sub (Int) (fun _ => (.exit 0)) (fun t6 => ⟨[.v (.one (.sc (.int .u32 t6))), .any, .any, .any, .any, .any, .any, .any, .any, .any, .any, .any, .any, .any, .any, .any, .any, .any, .any, .any, .any, .any], [], 0⟩) (fun t6 => (.adj [] (.adj [] (.adj [] .nil)))))))))) (to_goal (q := (True ∧ (True ∧ (True ∧ (((True) ∧ True) ∧ (∃ t6 : Int, Trip cfg (.loop (cpath (Tryd.f27.body.getD .skip) [1, 0, 1, 0, 0])) ⟨[.v (.one (.sc (.int .u32 a0))), .v (.one (.sc (.int .i64 a1))), .any, .any, .any, .v (.one (.sc (.int .i64 (0 : Int)))), .any, .any, .any, .any, .any, .any, .any, .any, .any, .any, .any, .any, .any, .any, .any, .any], [], 0⟩ (fun e s => e = (.exit 0) ∧ s = ⟨[.v (.one (.sc (.int .u32 t6))), .any, .any, .any, .any, .any, .any, .any, .any, .any, .any, .any, .any, .any, .any, .any, .any, .any, .any, .any, .any, .any], [], 0⟩) ∧ (True ∧ (True ∧ ((True) ∧ (True) ∧ (.v (.one (.sc (.int .u32 t6))) : Tm) = halterref01_Sar.R r ∧ ([] : List Box) = []))))))))) (by kernel_rfl) ?_)
  refine ⟨trivial, ?_⟩
  refine ⟨trivial, ?_⟩
  refine ⟨trivial, ?_⟩
  obtain ⟨t6, ht6, h⟩ := of_bind h
  refine ⟨⟨trivial, trivial⟩, t6, Trip.loop FUEL (halterref01_Sar.l0_ok a1 FUEL a0 (0 : Int) t6 ht6), ?_⟩
  refine ⟨trivial, ?_⟩
  refine ⟨trivial, ?_⟩
  obtain rfl := Option.some.inj h
  exact ⟨trivial, trivial, rfl, rfl⟩
/-! halter/halterref11.Do -/
def halterref11_Do.f (a0 : Int) (a1 : Int) (a2 : Int) (a3 : Int) : Option (Int × Int × Int) :=
  if a0 = (4 : Int) then
    (halterref01_Add.f a1 a2 false).bind fun t2 =>
    (halterref11_flags.f t2.1 t2.2.1 t2.2.2 a3).bind fun t3 =>
    some (t2.1, t3, (0 : Int))
  else
    if a0 = (5 : Int) then
      (halterref01_Sub.f a1 a2).bind fun t5 =>
      (halterref11_flags.f t5.1 t5.2.1 t5.2.2 a3).bind fun t6 =>
      some (t5.1, t6, (0 : Int))
    else
      if a0 = (6 : Int) then
        (halterref01_Mul.f a1 a2).bind fun t8 =>
        (halterref11_flags.f t8.1 (decide (t8.2 > (0 : Int))) false a3).bind fun t9 =>
        some (t8.1, t9, (0 : Int))
      else
        if a0 = (7 : Int) then
          if a2 = (0 : Int) then
            some ((0 : Int), (0 : Int), (14 : Int))
          else
            if a2 ≠ 0 then
              if a0 = (8 : Int) then
                if a2 ≠ 0 then
                  (halterref11_flags.f (IntKind.wrap .u32 (a1 - (IntKind.wrap .u32 ((IntKind.wrap .u32 (Int.tdiv a1 a2)) * a2)))) false false a3).bind fun t13 =>
                  some ((IntKind.wrap .u32 (a1 - (IntKind.wrap .u32 ((IntKind.wrap .u32 (Int.tdiv a1 a2)) * a2)))), t13, (0 : Int))
                else none
              else
                (halterref11_flags.f (IntKind.wrap .u32 (Int.tdiv a1 a2)) false false a3).bind fun t15 =>
                some ((IntKind.wrap .u32 (Int.tdiv a1 a2)), t15, (0 : Int))
            else none
        else
          if a0 = (8 : Int) then
            if a2 = (0 : Int) then
              some ((0 : Int), (0 : Int), (14 : Int))
            else
              if a2 ≠ 0 then
                if a2 ≠ 0 then
                  (halterref11_flags.f (IntKind.wrap .u32 (a1 - (IntKind.wrap .u32 ((IntKind.wrap .u32 (Int.tdiv a1 a2)) * a2)))) false false a3).bind fun t19 =>
                  some ((IntKind.wrap .u32 (a1 - (IntKind.wrap .u32 ((IntKind.wrap .u32 (Int.tdiv a1 a2)) * a2)))), t19, (0 : Int))
                else none
              else none
          else
            if a0 = (9 : Int) then
              (halterref11_bit.f a1 a2 (IntKind.wrap .i64 (a0 - (9 : Int)))).bind fun t23 =>
              (halterref11_flags.f t23 false false a3).bind fun t24 =>
              some (t23, t24, (0 : Int))
            else
              if a0 = (10 : Int) then
                (halterref11_bit.f a1 a2 (IntKind.wrap .i64 (a0 - (9 : Int)))).bind fun t26 =>
                (halterref11_flags.f t26 false false a3).bind fun t27 =>
                some (t26, t27, (0 : Int))
              else
                if a0 = (11 : Int) then
                  (halterref11_bit.f a1 a2 (IntKind.wrap .i64 (a0 - (9 : Int)))).bind fun t29 =>
                  (halterref11_flags.f t29 false false a3).bind fun t30 =>
                  some (t29, t30, (0 : Int))
                else
                  if a0 = (12 : Int) then
                    (halterref01_Power.f (IntKind.wrap .i64 ((32 : Int) - (IntKind.wrap .i64 ((Int.tmod a2 (32 : Int))))))).bind fun t32 =>
                    if t32 ≠ 0 then
                      (halterref01_Power.f (IntKind.wrap .i64 ((Int.tmod a2 (32 : Int))))).bind fun t34 =>
                      (halterref01_Of.f (IntKind.wrap .i64 ((Int.tmod (IntKind.wrap .i64 (a1)) t32) * t34))).bind fun t35 =>
                      (halterref11_flags.f t35 false false a3).bind fun t36 =>
                      some (t35, t36, (0 : Int))
                    else none
                  else
                    if a0 = (13 : Int) then
                      (halterref01_Power.f (IntKind.wrap .i64 ((Int.tmod a2 (32 : Int))))).bind fun t38 =>
                      if t38 ≠ 0 then
                        (halterref11_flags.f (IntKind.wrap .u32 ((IntKind.wrap .i64 (Int.tdiv (IntKind.wrap .i64 (a1)) t38)))) false false a3).bind fun t39 =>
                        some ((IntKind.wrap .u32 ((IntKind.wrap .i64 (Int.tdiv (IntKind.wrap .i64 (a1)) t38)))), t39, (0 : Int))
                      else none
                    else
                      if a0 = (14 : Int) then
                        (halterref01_Sar.f a1 (IntKind.wrap .i64 ((Int.tmod a2 (32 : Int))))).bind fun t42 =>
                        (halterref11_flags.f t42 false false a3).bind fun t43 =>
                        some (t42, t43, (0 : Int))
                      else
                        if a0 = (16 : Int) then
                          (halterref01_Sub.f a1 a2).bind fun t45 =>
                          (halterref11_flags.f t45.1 t45.2.1 t45.2.2 a3).bind fun t46 =>
                          some (a1, t46, (0 : Int))
                        else
                          some ((0 : Int), (0 : Int), (22 : Int))
def halterref11_Do.R (r : Int × Int × Int) : Tm := .tup [.one (.sc (.int .u32 r.1)), .one (.sc (.int .u32 r.2.1)), .one (.sc (.int .i64 r.2.2))]
theorem halterref11_Do.fun_ {a0 : Int} {a1 : Int} {a2 : Int} {a3 : Int} {r : Int × Int × Int} (h : halterref11_Do.f a0 a1 a2 a3 = some r) : Fun cfg 8 [.one (.sc (.int .i64 a0)), .one (.sc (.int .u32 a1)), .one (.sc (.int .u32 a2)), .one (.sc (.int .u32 a3))] [] (halterref11_Do.R r) [] := by
  unfold halterref11_Do.f at h
  refine fun_of_run cfg_ok (f := 8) (fn := Tryd.f8) Tryd.func8 rfl (by kernel_rfl) (rs := [.tmp 8, .tmp 9, .tmp 10]) rfl (nt := 126) rfl (l := fin) (k := (.br (.call true [] (Int × Bool × Bool) (fun t2 => halterref01_Add.R t2) (fun t2 => (.call true [] (Int) (fun t3 => halterref11_flags.R t3) (fun t3 => (.adj [] (.adj [] .nil)))))) (.br (.call true [] (Int × Bool × Bool) (fun t5 => halterref01_Sub.R t5) (fun t5 => (.call true [] (Int) (fun t6 => halterref11_flags.R t6) (fun t6 => (.adj [] (.adj [] .nil)))))) (.br (.call true [] (Int × Int) (fun t8 => halterref01_Mul.R t8) (fun t8 => (.call true [] (Int) (fun t9 => halterref11_flags.R t9) (fun t9 => (.adj [] (.adj [] .nil)))))) (.br (.one true (.br (.adj [] (.adj [] (.adj [] .nil))) (.br (.call true [] (Int) (fun t13 => halterref11_flags.R t13) (fun t13 => (.adj [] (.adj [] .nil)))) (.call true [] (Int) (fun t15 => halterref11_flags.R t15) (fun t15 => (.adj [] (.adj [] .nil))))))) (.br (.br (.adj [] (.adj [] (.adj [] .nil))) (.one true (.call true [] (Int) (fun t19 => halterref11_flags.R t19) (fun t19 => (.adj [] (.adj [] .nil)))))) (.br (.one true (.call true [] (Int) (fun t23 => halterref11_bit.R t23) (fun t23 => (.call true [] (Int) (fun t24 => halterref11_flags.R t24) (fun t24 => (.adj [] (.adj [] .nil))))))) (.br (.one true (.call true [] (Int) (fun t26 => halterref11_bit.R t26) (fun t26 => (.call true [] (Int) (fun t27 => halterref11_flags.R t27) (fun t27 => (.adj [] (.adj [] .nil))))))) (.br (.call true [] (Int) (fun t29 => halterref11_bit.R t29) (fun t29 => (.call true [] (Int) (fun t30 => halterref11_flags.R t30) (fun t30 => (.adj [] (.adj [] .nil)))))) (.br (.ex (Int) (fun t32 => (.ex (Int) (fun t34 => (.ex (Int) (fun t35 => (.dr [(0, dN), (1, dN), (2, dN), (3, dN), (4, dN), (5, dN), (6, ⟨none, .callP true [] (halterref01_Power.R t32), false⟩), (7, dN), (8, dN), (9, dN), (10, dN), (11, ⟨none, .callP true [] (halterref01_Power.R t34), false⟩), (12, dN), (13, ⟨none, .callP true [] (halterref01_Of.R t35), false⟩), (14, dN)] (.call true [] (Int) (fun t36 => halterref11_flags.R t36) (fun t36 => (.adj [] (.adj [] .nil))))))))))) (.br (.call true [] (Int) (fun t38 => halterref01_Power.R t38) (fun t38 => (.call true [] (Int) (fun t39 => halterref11_flags.R t39) (fun t39 => (.adj [] (.adj [] .nil)))))) (.br (.call true [] (Int) (fun t42 => halterref01_Sar.R t42) (fun t42 => (.call true [] (Int) (fun t43 => halterref11_flags.R t43) (fun t43 => (.adj [] (.adj [] .nil)))))) (.br (.call true [] (Int × Bool × Bool) (fun t45 => halterref01_Sub.R t45) (fun t45 => (.call true [] (Int) (fun t46 => halterref11_flags.R t46) (fun t46 => (.adj [] (.adj [] .nil)))))) (.adj [] (.adj [] (.adj [] .nil)))))))))))))))) (to_goal (q := (True) ∧ (((a0 == (4 : Int)) = true → (∃ t2 : Int × Bool × Bool, (Fun cfg 21 [.one (.sc (.int .u32 a1)), .one (.sc (.int .u32 a2)), .one (.sc (.bool false))] [] (halterref01_Add.R t2) [] ∧ True) ∧ (∃ t3 : Int, (Fun cfg 28 [.one (.sc (.int .u32 t2.1)), .one (.sc (.bool t2.2.1)), .one (.sc (.bool (z2 t2))), .one (.sc (.int .u32 a3))] [] (halterref11_flags.R t3) [] ∧ True) ∧ (True ∧ ((True) ∧ (True) ∧ (.tup [.one (.sc (.int .u32 t2.1)), .one (.sc (.int .u32 t3)), .one (.sc (.int .i64 (0 : Int)))] : Tm) = halterref11_Do.R r ∧ ([] : List Box) = []))))) ∧ ((a0 == (4 : Int)) = false → (True) ∧ (((a0 == (5 : Int)) = true → (∃ t5 : Int × Bool × Bool, (Fun cfg 22 [.one (.sc (.int .u32 a1)), .one (.sc (.int .u32 a2))] [] (halterref01_Sub.R t5) [] ∧ True) ∧ (∃ t6 : Int, (Fun cfg 28 [.one (.sc (.int .u32 t5.1)), .one (.sc (.bool t5.2.1)), .one (.sc (.bool (z2 t5))), .one (.sc (.int .u32 a3))] [] (halterref11_flags.R t6) [] ∧ True) ∧ (True ∧ ((True) ∧ (True) ∧ (.tup [.one (.sc (.int .u32 t5.1)), .one (.sc (.int .u32 t6)), .one (.sc (.int .i64 (0 : Int)))] : Tm) = halterref11_Do.R r ∧ ([] : List Box) = []))))) ∧ ((a0 == (5 : Int)) = false → (True) ∧ (((a0 == (6 : Int)) = true → (∃ t8 : Int × Int, (Fun cfg 23 [.one (.sc (.int .u32 a1)), .one (.sc (.int .u32 a2))] [] (halterref01_Mul.R t8) [] ∧ True) ∧ (True) ∧ (∃ t9 : Int, (Fun cfg 28 [.one (.sc (.int .u32 t8.1)), .one (.sc (.bool (decide (t8.2 > (0 : Int))))), .one (.sc (.bool false)), .one (.sc (.int .u32 a3))] [] (halterref11_flags.R t9) [] ∧ True) ∧ (True ∧ ((True) ∧ (True) ∧ (.tup [.one (.sc (.int .u32 t8.1)), .one (.sc (.int .u32 t9)), .one (.sc (.int .i64 (0 : Int)))] : Tm) = halterref11_Do.R r ∧ ([] : List Box) = []))))) ∧ ((a0 == (6 : Int)) = false → (True) ∧ (((a0 == (7 : Int)) = true → ((a0 == (7 : Int)) = true ∧ (True) ∧ (((a2 == (0 : Int)) = true → (True ∧ (True ∧ ((True) ∧ (True) ∧ (.tup [.one (.sc (.int .u32 (0 : Int))), .one (.sc (.int .u32 (0 : Int))), .one (.sc (.int .i64 (14 : Int)))] : Tm) = halterref11_Do.R r ∧ ([] : List Box) = [])))) ∧ ((a2 == (0 : Int)) = false → (a2 ≠ 0) ∧ (True) ∧ (((a0 == (8 : Int)) = true → (a2 ≠ 0) ∧ (True) ∧ (True) ∧ (∃ t13 : Int, (Fun cfg 28 [.one (.sc (.int .u32 (IntKind.wrap .u32 (a1 - (IntKind.wrap .u32 ((IntKind.wrap .u32 (Int.tdiv a1 a2)) * a2)))))), .one (.sc (.bool false)), .one (.sc (.bool false)), .one (.sc (.int .u32 a3))] [] (halterref11_flags.R t13) [] ∧ True) ∧ (True ∧ ((True) ∧ (True) ∧ (.tup [.one (.sc (.int .u32 (IntKind.wrap .u32 (a1 - (IntKind.wrap .u32 ((IntKind.wrap .u32 (Int.tdiv a1 a2)) * a2)))))), .one (.sc (.int .u32 t13)), .one (.sc (.int .i64 (0 : Int)))] : Tm) = halterref11_Do.R r ∧ ([] : List Box) = [])))) ∧ ((a0 == (8 : Int)) = false → (∃ t15 : Int, (Fun cfg 28 [.one (.sc (.int .u32 (IntKind.wrap .u32 (Int.tdiv a1 a2)))), .one (.sc (.bool false)), .one (.sc (.bool false)), .one (.sc (.int .u32 a3))] [] (halterref11_flags.R t15) [] ∧ True) ∧ (True ∧ ((True) ∧ (True) ∧ (.tup [.one (.sc (.int .u32 (IntKind.wrap .u32 (Int.tdiv a1 a2)))), .one (.sc (.int .u32 t15)), .one (.sc (.int .i64 (0 : Int)))] : Tm) = halterref11_Do.R r ∧ ([] : List Box) = []))))))))) ∧ ((a0 == (7 : Int)) = false → (True) ∧ (((a0 == (8 : Int)) = true → (True) ∧ (((a2 == (0 : Int)) = true → (True ∧ (True ∧ ((True) ∧ (True) ∧ (.tup [.one (.sc (.int .u32 (0 : Int))), .one (.sc (.int .u32 (0 : Int))), .one (.sc (.int .i64 (14 : Int)))] : Tm) = halterref11_Do.R r ∧ ([] : List Box) = [])))) ∧ ((a2 == (0 : Int)) = false → (a2 ≠ 0) ∧ (True) ∧ ((a0 == (8 : Int)) = true ∧ (a2 ≠ 0) ∧ (True) ∧ (True) ∧ (∃ t19 : Int, (Fun cfg 28 [.one (.sc (.int .u32 (IntKind.wrap .u32 (a1 - (IntKind.wrap .u32 ((IntKind.wrap .u32 (Int.tdiv a1 a2)) * a2)))))), .one (.sc (.bool false)), .one (.sc (.bool false)), .one (.sc (.int .u32 a3))] [] (halterref11_flags.R t19) [] ∧ True) ∧ (True ∧ ((True) ∧ (True) ∧ (.tup [.one (.sc (.int .u32 (IntKind.wrap .u32 (a1 - (IntKind.wrap .u32 ((IntKind.wrap .u32 (Int.tdiv a1 a2)) * a2)))))), .one (.sc (.int .u32 t19)), .one (.sc (.int .i64 (0 : Int)))] : Tm) = halterref11_Do.R r ∧ ([] : List Box) = []))))))) ∧ ((a0 == (8 : Int)) = false → (True) ∧ (((a0 == (9 : Int)) = true → ((a0 == (9 : Int)) = true ∧ (True) ∧ (∃ t23 : Int, (Fun cfg 24 [.one (.sc (.int .u32 a1)), .one (.sc (.int .u32 a2)), .one (.sc (.int .i64 (IntKind.wrap .i64 (a0 - (9 : Int)))))] [] (halterref11_bit.R t23) [] ∧ True) ∧ (∃ t24 : Int, (Fun cfg 28 [.one (.sc (.int .u32 t23)), .one (.sc (.bool false)), .one (.sc (.bool false)), .one (.sc (.int .u32 a3))] [] (halterref11_flags.R t24) [] ∧ True) ∧ (True ∧ ((True) ∧ (True) ∧ (.tup [.one (.sc (.int .u32 t23)), .one (.sc (.int .u32 t24)), .one (.sc (.int .i64 (0 : Int)))] : Tm) = halterref11_Do.R r ∧ ([] : List Box) = [])))))) ∧ ((a0 == (9 : Int)) = false → (True) ∧ (((a0 == (10 : Int)) = true → ((a0 == (10 : Int)) = true ∧ (True) ∧ (∃ t26 : Int, (Fun cfg 24 [.one (.sc (.int .u32 a1)), .one (.sc (.int .u32 a2)), .one (.sc (.int .i64 (IntKind.wrap .i64 (a0 - (9 : Int)))))] [] (halterref11_bit.R t26) [] ∧ True) ∧ (∃ t27 : Int, (Fun cfg 28 [.one (.sc (.int .u32 t26)), .one (.sc (.bool false)), .one (.sc (.bool false)), .one (.sc (.int .u32 a3))] [] (halterref11_flags.R t27) [] ∧ True) ∧ (True ∧ ((True) ∧ (True) ∧ (.tup [.one (.sc (.int .u32 t26)), .one (.sc (.int .u32 t27)), .one (.sc (.int .i64 (0 : Int)))] : Tm) = halterref11_Do.R r ∧ ([] : List Box) = [])))))) ∧ ((a0 == (10 : Int)) = false → (True) ∧ (((a0 == (11 : Int)) = true → (True) ∧ (∃ t29 : Int, (Fun cfg 24 [.one (.sc (.int .u32 a1)), .one (.sc (.int .u32 a2)), .one (.sc (.int .i64 (IntKind.wrap .i64 (a0 - (9 : Int)))))] [] (halterref11_bit.R t29) [] ∧ True) ∧ (∃ t30 : Int, (Fun cfg 28 [.one (.sc (.int .u32 t29)), .one (.sc (.bool false)), .one (.sc (.bool false)), .one (.sc (.int .u32 a3))] [] (halterref11_flags.R t30) [] ∧ True) ∧ (True ∧ ((True) ∧ (True) ∧ (.tup [.one (.sc (.int .u32 t29)), .one (.sc (.int .u32 t30)), .one (.sc (.int .i64 (0 : Int)))] : Tm) = halterref11_Do.R r ∧ ([] : List Box) = []))))) ∧ ((a0 == (11 : Int)) = false → (True) ∧ (((a0 == (12 : Int)) = true → (∃ t32 : Int, (∃ t34 : Int, (∃ t35 : Int, (True) ∧ ((32 : Int) ≠ 0) ∧ (True) ∧ (True) ∧ (Fun cfg 26 [.one (.sc (.int .i64 (IntKind.wrap .i64 ((32 : Int) - (IntKind.wrap .i64 ((Int.tmod a2 (32 : Int))))))))] [] (halterref01_Power.R t32) [] ∧ True) ∧ (t32 ≠ 0) ∧ ((32 : Int) ≠ 0) ∧ (True) ∧ (Fun cfg 26 [.one (.sc (.int .i64 (IntKind.wrap .i64 ((Int.tmod a2 (32 : Int))))))] [] (halterref01_Power.R t34) [] ∧ True) ∧ (True) ∧ (Fun cfg 25 [.one (.sc (.int .i64 (IntKind.wrap .i64 ((Int.tmod (IntKind.wrap .i64 (a1)) t32) * t34))))] [] (halterref01_Of.R t35) [] ∧ True) ∧ (∃ t36 : Int, (Fun cfg 28 [.one (.sc (.int .u32 t35)), .one (.sc (.bool false)), .one (.sc (.bool false)), .one (.sc (.int .u32 a3))] [] (halterref11_flags.R t36) [] ∧ True) ∧ (True ∧ ((True) ∧ (True) ∧ (.tup [.one (.sc (.int .u32 t35)), .one (.sc (.int .u32 t36)), .one (.sc (.int .i64 (0 : Int)))] : Tm) = halterref11_Do.R r ∧ ([] : List Box) = []))))))) ∧ ((a0 == (12 : Int)) = false → (True) ∧ (((a0 == (13 : Int)) = true → (True) ∧ ((32 : Int) ≠ 0) ∧ (True) ∧ (∃ t38 : Int, (Fun cfg 26 [.one (.sc (.int .i64 (IntKind.wrap .i64 ((Int.tmod a2 (32 : Int))))))] [] (halterref01_Power.R t38) [] ∧ True) ∧ (t38 ≠ 0) ∧ (True) ∧ (∃ t39 : Int, (Fun cfg 28 [.one (.sc (.int .u32 (IntKind.wrap .u32 ((IntKind.wrap .i64 (Int.tdiv (IntKind.wrap .i64 (a1)) t38)))))), .one (.sc (.bool false)), .one (.sc (.bool false)), .one (.sc (.int .u32 a3))] [] (halterref11_flags.R t39) [] ∧ True) ∧ (True ∧ ((True) ∧ (True) ∧ (.tup [.one (.sc (.int .u32 (IntKind.wrap .u32 ((IntKind.wrap .i64 (Int.tdiv (IntKind.wrap .i64 (a1)) t38)))))), .one (.sc (.int .u32 t39)), .one (.sc (.int .i64 (0 : Int)))] : Tm) = halterref11_Do.R r ∧ ([] : List Box) = []))))) ∧ ((a0 == (13 : Int)) = false → (True) ∧ (((a0 == (14 : Int)) = true → ((32 : Int) ≠ 0) ∧ (True) ∧ (∃ t42 : Int, (Fun cfg 27 [.one (.sc (.int .u32 a1)), .one (.sc (.int .i64 (IntKind.wrap .i64 ((Int.tmod a2 (32 : Int))))))] [] (halterref01_Sar.R t42) [] ∧ True) ∧ (∃ t43 : Int, (Fun cfg 28 [.one (.sc (.int .u32 t42)), .one (.sc (.bool false)), .one (.sc (.bool false)), .one (.sc (.int .u32 a3))] [] (halterref11_flags.R t43) [] ∧ True) ∧ (True ∧ ((True) ∧ (True) ∧ (.tup [.one (.sc (.int .u32 t42)), .one (.sc (.int .u32 t43)), .one (.sc (.int .i64 (0 : Int)))] : Tm) = halterref11_Do.R r ∧ ([] : List Box) = []))))) ∧ ((a0 == (14 : Int)) = false → (True) ∧ (((a0 == (16 : Int)) = true → (∃ t45 : Int × Bool × Bool, (Fun cfg 22 [.one (.sc (.int .u32 a1)), .one (.sc (.int .u32 a2))] [] (halterref01_Sub.R t45) [] ∧ True) ∧ (∃ t46 : Int, (Fun cfg 28 [.one (.sc (.int .u32 t45.1)), .one (.sc (.bool t45.2.1)), .one (.sc (.bool (z2 t45))), .one (.sc (.int .u32 a3))] [] (halterref11_flags.R t46) [] ∧ True) ∧ (True ∧ ((True) ∧ (True) ∧ (.tup [.one (.sc (.int .u32 a1)), .one (.sc (.int .u32 t46)), .one (.sc (.int .i64 (0 : Int)))] : Tm) = halterref11_Do.R r ∧ ([] : List Box) = []))))) ∧ ((a0 == (16 : Int)) = false → (True ∧ (True ∧ ((True) ∧ (True) ∧ (.tup [.one (.sc (.int .u32 (0 : Int))), .one (.sc (.int .u32 (0 : Int))), .one (.sc (.int .i64 (22 : Int)))] : Tm) = halterref11_Do.R r ∧ ([] : List Box) = [])))))))))))))))))))))))))))) (by kernel_rfl) ?_)
  refine ⟨trivial, ?_⟩
  refine ⟨fun b1 => ?_, fun b1 => ?_⟩
  · rw [if_pos (beq_t b1)] at h
    obtain ⟨t2, ht2, h⟩ := of_bind h
    refine ⟨t2, ⟨halterref01_Add.fun_ ht2, trivial⟩, ?_⟩
    obtain ⟨t3, ht3, h⟩ := of_bind h
    refine ⟨t3, ⟨halterref11_flags.fun_ ht3, trivial⟩, ?_⟩
    refine ⟨trivial, ?_⟩
    obtain rfl := Option.some.inj h
    exact ⟨trivial, trivial, rfl, rfl⟩
  · rw [if_neg (beq_f b1)] at h
    refine ⟨trivial, ?_⟩
    refine ⟨fun b4 => ?_, fun b4 => ?_⟩
    · rw [if_pos (beq_t b4)] at h
      obtain ⟨t5, ht5, h⟩ := of_bind h
      refine ⟨t5, ⟨halterref01_Sub.fun_ ht5, trivial⟩, ?_⟩
      obtain ⟨t6, ht6, h⟩ := of_bind h
      refine ⟨t6, ⟨halterref11_flags.fun_ ht6, trivial⟩, ?_⟩
      refine ⟨trivial, ?_⟩
      obtain rfl := Option.some.inj h
      exact ⟨trivial, trivial, rfl, rfl⟩
    · rw [if_neg (beq_f b4)] at h
      refine ⟨trivial, ?_⟩
      refine ⟨fun b7 => ?_, fun b7 => ?_⟩
      · rw [if_pos (beq_t b7)] at h
        obtain ⟨t8, ht8, h⟩ := of_bind h
        refine ⟨t8, ⟨halterref01_Mul.fun_ ht8, trivial⟩, ?_⟩
        refine ⟨trivial, ?_⟩
        obtain ⟨t9, ht9, h⟩ := of_bind h
        refine ⟨t9, ⟨halterref11_flags.fun_ ht9, trivial⟩, ?_⟩
        refine ⟨trivial, ?_⟩
        obtain rfl := Option.some.inj h
        exact ⟨trivial, trivial, rfl, rfl⟩
      · rw [if_neg (beq_f b7)] at h
        refine ⟨trivial, ?_⟩
        refine ⟨fun b10 => ?_, fun b10 => ?_⟩
        · rw [if_pos (beq_t b10)] at h
          refine ⟨b10, ?_⟩
          refine ⟨trivial, ?_⟩
          refine ⟨fun b11 => ?_, fun b11 => ?_⟩
          · rw [if_pos (beq_t b11)] at h
            refine ⟨trivial, ?_⟩
            refine ⟨trivial, ?_⟩
            obtain rfl := Option.some.inj h
            exact ⟨trivial, trivial, rfl, rfl⟩
          · rw [if_neg (beq_f b11)] at h
            obtain ⟨g16, h⟩ := of_guard h
            refine ⟨g16, ?_⟩
            refine ⟨trivial, ?_⟩
            refine ⟨fun b12 => ?_, fun b12 => ?_⟩
            · rw [if_pos (beq_t b12)] at h
              obtain ⟨g14, h⟩ := of_guard h
              refine ⟨g14, ?_⟩
              refine ⟨trivial, ?_⟩
              refine ⟨trivial, ?_⟩
              obtain ⟨t13, ht13, h⟩ := of_bind h
              refine ⟨t13, ⟨halterref11_flags.fun_ ht13, trivial⟩, ?_⟩
              refine ⟨trivial, ?_⟩
              obtain rfl := Option.some.inj h
              exact ⟨trivial, trivial, rfl, rfl⟩
            · rw [if_neg (beq_f b12)] at h
              obtain ⟨t15, ht15, h⟩ := of_bind h
              refine ⟨t15, ⟨halterref11_flags.fun_ ht15, trivial⟩, ?_⟩
              refine ⟨trivial, ?_⟩
              obtain rfl := Option.some.inj h
              exact ⟨trivial, trivial, rfl, rfl⟩
        · rw [if_neg (beq_f b10)] at h
          refine ⟨trivial, ?_⟩
          refine ⟨fun b17 => ?_, fun b17 => ?_⟩
          · rw [if_pos (beq_t b17)] at h
            refine ⟨trivial, ?_⟩
            refine ⟨fun b18 => ?_, fun b18 => ?_⟩
            · rw [if_pos (beq_t b18)] at h
              refine ⟨trivial, ?_⟩
              refine ⟨trivial, ?_⟩
              obtain rfl := Option.some.inj h
              exact ⟨trivial, trivial, rfl, rfl⟩
            · rw [if_neg (beq_f b18)] at h
              obtain ⟨g21, h⟩ := of_guard h
              refine ⟨g21, ?_⟩
              refine ⟨trivial, ?_⟩
              refine ⟨b17, ?_⟩
              obtain ⟨g20, h⟩ := of_guard h
              refine ⟨g20, ?_⟩
              refine ⟨trivial, ?_⟩
              refine ⟨trivial, ?_⟩
              obtain ⟨t19, ht19, h⟩ := of_bind h
              refine ⟨t19, ⟨halterref11_flags.fun_ ht19, trivial⟩, ?_⟩
              refine ⟨trivial, ?_⟩
              obtain rfl := Option.some.inj h
              exact ⟨trivial, trivial, rfl, rfl⟩
          · rw [if_neg (beq_f b17)] at h
            refine ⟨trivial, ?_⟩
            refine ⟨fun b22 => ?_, fun b22 => ?_⟩
            · rw [if_pos (beq_t b22)] at h
              refine ⟨b22, ?_⟩
              refine ⟨trivial, ?_⟩
              obtain ⟨t23, ht23, h⟩ := of_bind h
              refine ⟨t23, ⟨halterref11_bit.fun_ ht23, trivial⟩, ?_⟩
              obtain ⟨t24, ht24, h⟩ := of_bind h
              refine ⟨t24, ⟨halterref11_flags.fun_ ht24, trivial⟩, ?_⟩
              refine ⟨trivial, ?_⟩
              obtain rfl := Option.some.inj h
              exact ⟨trivial, trivial, rfl, rfl⟩
            · rw [if_neg (beq_f b22)] at h
              refine ⟨trivial, ?_⟩
              refine ⟨fun b25 => ?_, fun b25 => ?_⟩
              · rw [if_pos (beq_t b25)] at h
                refine ⟨b25, ?_⟩
                refine ⟨trivial, ?_⟩
                obtain ⟨t26, ht26, h⟩ := of_bind h
                refine ⟨t26, ⟨halterref11_bit.fun_ ht26, trivial⟩, ?_⟩
                obtain ⟨t27, ht27, h⟩ := of_bind h
                refine ⟨t27, ⟨halterref11_flags.fun_ ht27, trivial⟩, ?_⟩
                refine ⟨trivial, ?_⟩
                obtain rfl := Option.some.inj h
                exact ⟨trivial, trivial, rfl, rfl⟩
              · rw [if_neg (beq_f b25)] at h
                refine ⟨trivial, ?_⟩
                refine ⟨fun b28 => ?_, fun b28 => ?_⟩
                · rw [if_pos (beq_t b28)] at h
                  refine ⟨trivial, ?_⟩
                  obtain ⟨t29, ht29, h⟩ := of_bind h
                  refine ⟨t29, ⟨halterref11_bit.fun_ ht29, trivial⟩, ?_⟩
                  obtain ⟨t30, ht30, h⟩ := of_bind h
                  refine ⟨t30, ⟨halterref11_flags.fun_ ht30, trivial⟩, ?_⟩
                  refine ⟨trivial, ?_⟩
                  obtain rfl := Option.some.inj h
                  exact ⟨trivial, trivial, rfl, rfl⟩
                · rw [if_neg (beq_f b28)] at h
                  refine ⟨trivial, ?_⟩
                  refine ⟨fun b31 => ?_, fun b31 => ?_⟩
                  · rw [if_pos (beq_t b31)] at h
                    obtain ⟨t32, ht32, h⟩ := of_bind h
                    refine ⟨t32, ?_⟩
                    obtain ⟨g33, h⟩ := of_guard h
                    obtain ⟨t34, ht34, h⟩ := of_bind h
                    refine ⟨t34, ?_⟩
                    obtain ⟨t35, ht35, h⟩ := of_bind h
                    refine ⟨t35, ?_⟩
                    refine ⟨trivial, (by decide), trivial, trivial, ⟨halterref01_Power.fun_ ht32, trivial⟩, g33, (by decide), trivial, ⟨halterref01_Power.fun_ ht34, trivial⟩, trivial, ⟨halterref01_Of.fun_ ht35, trivial⟩, ?_⟩
                    obtain ⟨t36, ht36, h⟩ := of_bind h
                    refine ⟨t36, ⟨halterref11_flags.fun_ ht36, trivial⟩, ?_⟩
                    refine ⟨trivial, ?_⟩
                    obtain rfl := Option.some.inj h
                    exact ⟨trivial, trivial, rfl, rfl⟩
                  · rw [if_neg (beq_f b31)] at h
                    refine ⟨trivial, ?_⟩
                    refine ⟨fun b37 => ?_, fun b37 => ?_⟩
                    · rw [if_pos (beq_t b37)] at h
                      refine ⟨trivial, ?_⟩
                      refine ⟨(by decide), ?_⟩
                      refine ⟨trivial, ?_⟩
                      obtain ⟨t38, ht38, h⟩ := of_bind h
                      refine ⟨t38, ⟨halterref01_Power.fun_ ht38, trivial⟩, ?_⟩
                      obtain ⟨g40, h⟩ := of_guard h
                      refine ⟨g40, ?_⟩
                      refine ⟨trivial, ?_⟩
                      obtain ⟨t39, ht39, h⟩ := of_bind h
                      refine ⟨t39, ⟨halterref11_flags.fun_ ht39, trivial⟩, ?_⟩
                      refine ⟨trivial, ?_⟩
                      obtain rfl := Option.some.inj h
                      exact ⟨trivial, trivial, rfl, rfl⟩
                    · rw [if_neg (beq_f b37)] at h
                      refine ⟨trivial, ?_⟩
                      refine ⟨fun b41 => ?_, fun b41 => ?_⟩
                      · rw [if_pos (beq_t b41)] at h
                        refine ⟨(by decide), ?_⟩
                        refine ⟨trivial, ?_⟩
                        obtain ⟨t42, ht42, h⟩ := of_bind h
                        refine ⟨t42, ⟨halterref01_Sar.fun_ ht42, trivial⟩, ?_⟩
                        obtain ⟨t43, ht43, h⟩ := of_bind h
                        refine ⟨t43, ⟨halterref11_flags.fun_ ht43, trivial⟩, ?_⟩
                        refine ⟨trivial, ?_⟩
                        obtain rfl := Option.some.inj h
                        exact ⟨trivial, trivial, rfl, rfl⟩
                      · rw [if_neg (beq_f b41)] at h
                        refine ⟨trivial, ?_⟩
                        refine ⟨fun b44 => ?_, fun b44 => ?_⟩
                        · rw [if_pos (beq_t b44)] at h
                          obtain ⟨t45, ht45, h⟩ := of_bind h
                          refine ⟨t45, ⟨halterref01_Sub.fun_ ht45, trivial⟩, ?_⟩
                          obtain ⟨t46, ht46, h⟩ := of_bind h
                          refine ⟨t46, ⟨halterref11_flags.fun_ ht46, trivial⟩, ?_⟩
                          refine ⟨trivial, ?_⟩
                          obtain rfl := Option.some.inj h
                          exact ⟨trivial, trivial, rfl, rfl⟩
                        · rw [if_neg (beq_f b44)] at h
                          refine ⟨trivial, ?_⟩
                          refine ⟨trivial, ?_⟩
                          obtain rfl := Option.some.inj h
                          exact ⟨trivial, trivial, rfl, rfl⟩
/-! halter/alu.Taken -/
def alu_Taken.f (a0 : Int) (a1 : Int) : Option (Bool × (Option Int)) :=
  if a0 = (21 : Int) then
    some (true, none)
  else
    if a0 = (22 : Int) then
      some (((bits .and .u32 a1 (1 : Int)) != (0 : Int)), none)
    else
      if a0 = (23 : Int) then
        some (((bits .and .u32 a1 (1 : Int)) == (0 : Int)), none)
      else
        if a0 = (24 : Int) then
          some ((!(((bits .and .u32 a1 (2 : Int)) != (0 : Int)) == ((bits .and .u32 a1 (8 : Int)) != (0 : Int)))), none)
        else
          if a0 = (25 : Int) then
            some ((!(!(((bits .and .u32 a1 (2 : Int)) != (0 : Int)) == ((bits .and .u32 a1 (8 : Int)) != (0 : Int))))), none)
          else
            if a0 = (26 : Int) then
              some (((bits .and .u32 a1 (4 : Int)) != (0 : Int)), none)
            else
              some (false, (some (22 : Int)))
def alu_Taken.R (r : Bool × (Option Int)) : Tm := .tup [.one (.sc (.bool r.1)), .one (.err r.2)]
theorem alu_Taken.fun_ {a0 : Int} {a1 : Int} {r : Bool × (Option Int)} (h : alu_Taken.f a0 a1 = some r) : Fun cfg 9 [.one (.sc (.int .i64 a0)), .one (.sc (.int .u32 a1))] [] (alu_Taken.R r) [] := by
  unfold alu_Taken.f at h
  refine fun_of_run cfg_ok (f := 9) (fn := Tryd.f9) Tryd.func9 rfl (by kernel_rfl) (rs := [.tmp 4, .tmp 5]) rfl (nt := 40) rfl (l := fin) (k := (.br (.adj [] (.adj [] (.adj [] .nil))) (.br (.adj [] (.adj [] (.adj [] .nil))) (.br (.adj [] (.adj [] (.adj [] .nil))) (.br (.adj [] (.adj [] (.adj [] .nil))) (.br (.adj [] (.adj [] (.adj [] .nil))) (.br (.adj [] (.adj [] (.adj [] .nil))) (.adj [] (.adj [] (.adj [] (.adj [] .nil))))))))))) (to_goal (q := (True) ∧ (True) ∧ (True) ∧ (True) ∧ (True) ∧ (True) ∧ (((a0 == (21 : Int)) = true → (True ∧ (True ∧ ((True) ∧ (True) ∧ (.tup [.one (.sc (.bool true)), .one (.err none)] : Tm) = alu_Taken.R r ∧ ([] : List Box) = [])))) ∧ ((a0 == (21 : Int)) = false → (True) ∧ (((a0 == (22 : Int)) = true → (True ∧ (True) ∧ (True) ∧ (True ∧ ((True) ∧ (True) ∧ (.tup [.one (.sc (.bool ((bits .and .u32 a1 (1 : Int)) != (0 : Int)))), .one (.err none)] : Tm) = alu_Taken.R r ∧ ([] : List Box) = [])))) ∧ ((a0 == (22 : Int)) = false → (True) ∧ (((a0 == (23 : Int)) = true → (True ∧ (True) ∧ (True) ∧ (True ∧ ((True) ∧ (True) ∧ (.tup [.one (.sc (.bool ((bits .and .u32 a1 (1 : Int)) == (0 : Int)))), .one (.err none)] : Tm) = alu_Taken.R r ∧ ([] : List Box) = [])))) ∧ ((a0 == (23 : Int)) = false → (True) ∧ (((a0 == (24 : Int)) = true → (True ∧ (True ∧ ((True) ∧ (True) ∧ (.tup [.one (.sc (.bool (!(((bits .and .u32 a1 (2 : Int)) != (0 : Int)) == ((bits .and .u32 a1 (8 : Int)) != (0 : Int)))))), .one (.err none)] : Tm) = alu_Taken.R r ∧ ([] : List Box) = [])))) ∧ ((a0 == (24 : Int)) = false → (True) ∧ (((a0 == (25 : Int)) = true → (True ∧ (True ∧ ((True) ∧ (True) ∧ (.tup [.one (.sc (.bool (!(!(((bits .and .u32 a1 (2 : Int)) != (0 : Int)) == ((bits .and .u32 a1 (8 : Int)) != (0 : Int))))))), .one (.err none)] : Tm) = alu_Taken.R r ∧ ([] : List Box) = [])))) ∧ ((a0 == (25 : Int)) = false → (True) ∧ (((a0 == (26 : Int)) = true → (True ∧ (True) ∧ (True) ∧ (True ∧ ((True) ∧ (True) ∧ (.tup [.one (.sc (.bool ((bits .and .u32 a1 (4 : Int)) != (0 : Int)))), .one (.err none)] : Tm) = alu_Taken.R r ∧ ([] : List Box) = [])))) ∧ ((a0 == (26 : Int)) = false → (True ∧ (True ∧ (True ∧ ((True) ∧ (True) ∧ (.tup [.one (.sc (.bool false)), .one (.err (some (22 : Int)))] : Tm) = alu_Taken.R r ∧ ([] : List Box) = []))))))))))))))))) (by kernel_rfl) ?_)
  refine ⟨trivial, ?_⟩
  refine ⟨trivial, ?_⟩
  refine ⟨trivial, ?_⟩
  refine ⟨trivial, ?_⟩
  refine ⟨trivial, ?_⟩
  refine ⟨trivial, ?_⟩
  refine ⟨fun b1 => ?_, fun b1 => ?_⟩
  · rw [if_pos (beq_t b1)] at h
    refine ⟨trivial, ?_⟩
    refine ⟨trivial, ?_⟩
    obtain rfl := Option.some.inj h
    exact ⟨trivial, trivial, rfl, rfl⟩
  · rw [if_neg (beq_f b1)] at h
    refine ⟨trivial, ?_⟩
    refine ⟨fun b2 => ?_, fun b2 => ?_⟩
    · rw [if_pos (beq_t b2)] at h
      refine ⟨trivial, ?_⟩
      refine ⟨trivial, ?_⟩
      refine ⟨trivial, ?_⟩
      refine ⟨trivial, ?_⟩
      obtain rfl := Option.some.inj h
      exact ⟨trivial, trivial, rfl, rfl⟩
    · rw [if_neg (beq_f b2)] at h
      refine ⟨trivial, ?_⟩
      refine ⟨fun b3 => ?_, fun b3 => ?_⟩
      · rw [if_pos (beq_t b3)] at h
        refine ⟨trivial, ?_⟩
        refine ⟨trivial, ?_⟩
        refine ⟨trivial, ?_⟩
        refine ⟨trivial, ?_⟩
        obtain rfl := Option.some.inj h
        exact ⟨trivial, trivial, rfl, rfl⟩
      · rw [if_neg (beq_f b3)] at h
        refine ⟨trivial, ?_⟩
        refine ⟨fun b4 => ?_, fun b4 => ?_⟩
        · rw [if_pos (beq_t b4)] at h
          refine ⟨trivial, ?_⟩
          refine ⟨trivial, ?_⟩
          obtain rfl := Option.some.inj h
          exact ⟨trivial, trivial, rfl, rfl⟩
        · rw [if_neg (beq_f b4)] at h
          refine ⟨trivial, ?_⟩
          refine ⟨fun b5 => ?_, fun b5 => ?_⟩
          · rw [if_pos (beq_t b5)] at h
            refine ⟨trivial, ?_⟩
            refine ⟨trivial, ?_⟩
            obtain rfl := Option.some.inj h
            exact ⟨trivial, trivial, rfl, rfl⟩
          · rw [if_neg (beq_f b5)] at h
            refine ⟨trivial, ?_⟩
            refine ⟨fun b6 => ?_, fun b6 => ?_⟩
            · rw [if_pos (beq_t b6)] at h
              refine ⟨trivial, ?_⟩
              refine ⟨trivial, ?_⟩
              refine ⟨trivial, ?_⟩
              refine ⟨trivial, ?_⟩
              obtain rfl := Option.some.inj h
              exact ⟨trivial, trivial, rfl, rfl⟩
            · rw [if_neg (beq_f b6)] at h
              refine ⟨trivial, ?_⟩
              refine ⟨trivial, ?_⟩
              refine ⟨trivial, ?_⟩
              obtain rfl := Option.some.inj h
              exact ⟨trivial, trivial, rfl, rfl⟩
/-! halter/halterref11.Taken -/
def halterref11_Taken.c0 (a1 : Int) : Bool := (!(((Int.tmod (IntKind.wrap .u32 (Int.tdiv a1 (2 : Int))) (2 : Int)) == (1 : Int)) == ((Int.tmod (IntKind.wrap .u32 (Int.tdiv a1 (8 : Int))) (2 : Int)) == (1 : Int))))
def halterref11_Taken.c1 (a1 : Int) : Bool := (((Int.tmod (IntKind.wrap .u32 (Int.tdiv a1 (2 : Int))) (2 : Int)) == (1 : Int)) == ((Int.tmod (IntKind.wrap .u32 (Int.tdiv a1 (8 : Int))) (2 : Int)) == (1 : Int)))
def halterref11_Taken.f (a0 : Int) (a1 : Int) : Option (Bool × Int) :=
  if a0 = (21 : Int) then
    some (true, (0 : Int))
  else
    if a0 = (22 : Int) then
      some (((Int.tmod a1 (2 : Int)) == (1 : Int)), (0 : Int))
    else
      if a0 = (23 : Int) then
        some ((!((Int.tmod a1 (2 : Int)) == (1 : Int))), (0 : Int))
      else
        if a0 = (24 : Int) then
          some ((!(((Int.tmod (IntKind.wrap .u32 (Int.tdiv a1 (2 : Int))) (2 : Int)) == (1 : Int)) == ((Int.tmod (IntKind.wrap .u32 (Int.tdiv a1 (8 : Int))) (2 : Int)) == (1 : Int)))), (0 : Int))
        else
          if a0 = (25 : Int) then
            some ((((Int.tmod (IntKind.wrap .u32 (Int.tdiv a1 (2 : Int))) (2 : Int)) == (1 : Int)) == ((Int.tmod (IntKind.wrap .u32 (Int.tdiv a1 (8 : Int))) (2 : Int)) == (1 : Int))), (0 : Int))
          else
            if a0 = (26 : Int) then
              some (((Int.tmod (IntKind.wrap .u32 (Int.tdiv a1 (4 : Int))) (2 : Int)) == (1 : Int)), (0 : Int))
            else
              some (false, (22 : Int))
def halterref11_Taken.R (r : Bool × Int) : Tm := .tup [.one (.sc (.bool r.1)), .one (.sc (.int .i64 r.2))]
theorem halterref11_Taken.fun_ {a0 : Int} {a1 : Int} {r : Bool × Int} (h : halterref11_Taken.f a0 a1 = some r) : Fun cfg 10 [.one (.sc (.int .i64 a0)), .one (.sc (.int .u32 a1))] [] (halterref11_Taken.R r) [] := by
  unfold halterref11_Taken.f at h
  refine fun_of_run cfg_ok (f := 10) (fn := Tryd.f10) Tryd.func10 rfl (by kernel_rfl) (rs := [.tmp 4, .tmp 5]) rfl (nt := 48) rfl (l := fin) (k := (.br (.adj [] (.adj [] (.adj [] .nil))) (.br (.adj [] (.adj [] (.adj [] .nil))) (.br (.adj [] (.adj [] (.adj [] .nil))) (.br (.adj [] (.adj [] (.adj [] .nil))) (.br (.adj [] (.adj [] (.adj [] .nil))) (.br (.adj [] (.adj [] (.adj [] .nil))) (.adj [] (.adj [] (.adj [] (.adj [] .nil))))))))))) (to_goal (q := ((2 : Int) ≠ 0) ∧ (True) ∧ ((2 : Int) ≠ 0) ∧ ((2 : Int) ≠ 0) ∧ (True) ∧ ((4 : Int) ≠ 0) ∧ ((2 : Int) ≠ 0) ∧ (True) ∧ ((8 : Int) ≠ 0) ∧ ((2 : Int) ≠ 0) ∧ (True) ∧ (True) ∧ (((a0 == (21 : Int)) = true → (True ∧ (True ∧ ((True) ∧ (True) ∧ (.tup [.one (.sc (.bool true)), .one (.sc (.int .i64 (0 : Int)))] : Tm) = halterref11_Taken.R r ∧ ([] : List Box) = [])))) ∧ ((a0 == (21 : Int)) = false → (True) ∧ (((a0 == (22 : Int)) = true → (True ∧ (True ∧ ((True) ∧ (True) ∧ (.tup [.one (.sc (.bool ((Int.tmod a1 (2 : Int)) == (1 : Int)))), .one (.sc (.int .i64 (0 : Int)))] : Tm) = halterref11_Taken.R r ∧ ([] : List Box) = [])))) ∧ ((a0 == (22 : Int)) = false → (True) ∧ (((a0 == (23 : Int)) = true → (True ∧ (True ∧ ((True) ∧ (True) ∧ (.tup [.one (.sc (.bool (!((Int.tmod a1 (2 : Int)) == (1 : Int))))), .one (.sc (.int .i64 (0 : Int)))] : Tm) = halterref11_Taken.R r ∧ ([] : List Box) = [])))) ∧ ((a0 == (23 : Int)) = false → (True) ∧ (((a0 == (24 : Int)) = true → (True ∧ (True) ∧ (True ∧ ((True) ∧ (True) ∧ (.tup [.one (.sc (.bool (halterref11_Taken.c0 a1))), .one (.sc (.int .i64 (0 : Int)))] : Tm) = halterref11_Taken.R r ∧ ([] : List Box) = [])))) ∧ ((a0 == (24 : Int)) = false → (True) ∧ (((a0 == (25 : Int)) = true → (True ∧ (True) ∧ (True ∧ ((True) ∧ (True) ∧ (.tup [.one (.sc (.bool (halterref11_Taken.c1 a1))), .one (.sc (.int .i64 (0 : Int)))] : Tm) = halterref11_Taken.R r ∧ ([] : List Box) = [])))) ∧ ((a0 == (25 : Int)) = false → (True) ∧ (((a0 == (26 : Int)) = true → (True ∧ (True ∧ ((True) ∧ (True) ∧ (.tup [.one (.sc (.bool ((Int.tmod (IntKind.wrap .u32 (Int.tdiv a1 (4 : Int))) (2 : Int)) == (1 : Int)))), .one (.sc (.int .i64 (0 : Int)))] : Tm) = halterref11_Taken.R r ∧ ([] : List Box) = [])))) ∧ ((a0 == (26 : Int)) = false → (True ∧ (True ∧ (True ∧ ((True) ∧ (True) ∧ (.tup [.one (.sc (.bool false)), .one (.sc (.int .i64 (22 : Int)))] : Tm) = halterref11_Taken.R r ∧ ([] : List Box) = []))))))))))))))))) (by kernel_rfl) ?_)
  refine ⟨(by decide), ?_⟩
  refine ⟨trivial, ?_⟩
  refine ⟨(by decide), ?_⟩
  refine ⟨(by decide), ?_⟩
  refine ⟨trivial, ?_⟩
  refine ⟨(by decide), ?_⟩
  refine ⟨(by decide), ?_⟩
  refine ⟨trivial, ?_⟩
  refine ⟨(by decide), ?_⟩
  refine ⟨(by decide), ?_⟩
  refine ⟨trivial, ?_⟩
  refine ⟨trivial, ?_⟩
  refine ⟨fun b1 => ?_, fun b1 => ?_⟩
  · rw [if_pos (beq_t b1)] at h
    refine ⟨trivial, ?_⟩
    refine ⟨trivial, ?_⟩
    obtain rfl := Option.some.inj h
    exact ⟨trivial, trivial, rfl, rfl⟩
  · rw [if_neg (beq_f b1)] at h
    refine ⟨trivial, ?_⟩
    refine ⟨fun b2 => ?_, fun b2 => ?_⟩
    · rw [if_pos (beq_t b2)] at h
      refine ⟨trivial, ?_⟩
      refine ⟨trivial, ?_⟩
      obtain rfl := Option.some.inj h
      exact ⟨trivial, trivial, rfl, rfl⟩
    · rw [if_neg (beq_f b2)] at h
      refine ⟨trivial, ?_⟩
      refine ⟨fun b3 => ?_, fun b3 => ?_⟩
      · rw [if_pos (beq_t b3)] at h
        refine ⟨trivial, ?_⟩
        refine ⟨trivial, ?_⟩
        obtain rfl := Option.some.inj h
        exact ⟨trivial, trivial, rfl, rfl⟩
      · rw [if_neg (beq_f b3)] at h
        refine ⟨trivial, ?_⟩
        refine ⟨fun b4 => ?_, fun b4 => ?_⟩
        · rw [if_pos (beq_t b4)] at h
          refine ⟨trivial, ?_⟩
          refine ⟨trivial, ?_⟩
          refine ⟨trivial, ?_⟩
          obtain rfl := Option.some.inj h
          exact ⟨trivial, trivial, rfl, rfl⟩
        · rw [if_neg (beq_f b4)] at h
          refine ⟨trivial, ?_⟩
          refine ⟨fun b5 => ?_, fun b5 => ?_⟩
          · rw [if_pos (beq_t b5)] at h
            refine ⟨trivial, ?_⟩
            refine ⟨trivial, ?_⟩
            refine ⟨trivial, ?_⟩
            obtain rfl := Option.some.inj h
            exact ⟨trivial, trivial, rfl, rfl⟩
          · rw [if_neg (beq_f b5)] at h
            refine ⟨trivial, ?_⟩
            refine ⟨fun b6 => ?_, fun b6 => ?_⟩
            · rw [if_pos (beq_t b6)] at h
              refine ⟨trivial, ?_⟩
              refine ⟨trivial, ?_⟩
              obtain rfl := Option.some.inj h
              exact ⟨trivial, trivial, rfl, rfl⟩
            · rw [if_neg (beq_f b6)] at h
              refine ⟨trivial, ?_⟩
              refine ⟨trivial, ?_⟩
              refine ⟨trivial, ?_⟩
              obtain rfl := Option.some.inj h
              exact ⟨trivial, trivial, rfl, rfl⟩
/-! halter/alu.Float -/
def alu_Float.f (a0 : Int) (a1 : Int) (a2 : Int) : Option (Int × (Option Int)) :=
  if a0 = (33 : Int) then
    none
  else
    if a0 = (34 : Int) then
      none
    else
      if a0 = (35 : Int) then
        none
      else
        if a0 = (36 : Int) then
          (soft_Div.f a1 a2).bind fun t5 =>
          some (t5, none)
        else
          if a0 = (37 : Int) then
            none
          else
            some ((0 : Int), (some (22 : Int)))
def alu_Float.R (r : Int × (Option Int)) : Tm := .tup [.one (.sc (.int .u64 r.1)), .one (.err r.2)]
theorem alu_Float.fun_ {a0 : Int} {a1 : Int} {a2 : Int} {r : Int × (Option Int)} (h : alu_Float.f a0 a1 a2 = some r) : Fun cfg 13 [.one (.sc (.int .i64 a0)), .one (.sc (.int .u64 a1)), .one (.sc (.int .u64 a2))] [] (alu_Float.R r) [] := by
  unfold alu_Float.f at h
  refine fun_of_run cfg_ok (f := 13) (fn := Tryd.f13) Tryd.func13 rfl (by kernel_rfl) (rs := [.tmp 6, .tmp 7]) rfl (nt := 34) rfl (l := fin) (k := (.br .nil (.br .nil (.br .nil (.br (.call true [] (Int) (fun t5 => soft_Div.R t5) (fun t5 => (.adj [] (.adj [] .nil)))) (.br .nil (.adj [] (.adj [] (.adj [] (.adj [] .nil)))))))))) (to_goal (q := (True) ∧ (((a0 == (33 : Int)) = true → False) ∧ ((a0 == (33 : Int)) = false → (True) ∧ (((a0 == (34 : Int)) = true → False) ∧ ((a0 == (34 : Int)) = false → (True) ∧ (((a0 == (35 : Int)) = true → False) ∧ ((a0 == (35 : Int)) = false → (True) ∧ (((a0 == (36 : Int)) = true → (∃ t5 : Int, (Fun cfg 33 [.one (.sc (.int .u64 a1)), .one (.sc (.int .u64 a2))] [] (soft_Div.R t5) [] ∧ True) ∧ (True ∧ ((True) ∧ (True) ∧ (.tup [.one (.sc (.int .u64 t5)), .one (.err none)] : Tm) = alu_Float.R r ∧ ([] : List Box) = [])))) ∧ ((a0 == (36 : Int)) = false → (True) ∧ (((a0 == (37 : Int)) = true → False) ∧ ((a0 == (37 : Int)) = false → (True ∧ (True ∧ (True ∧ ((True) ∧ (True) ∧ (.tup [.one (.sc (.int .u64 (0 : Int))), .one (.err (some (22 : Int)))] : Tm) = alu_Float.R r ∧ ([] : List Box) = []))))))))))))))) (by kernel_rfl) ?_)
  refine ⟨trivial, ?_⟩
  refine ⟨fun b1 => ?_, fun b1 => ?_⟩
  · rw [if_pos (beq_t b1)] at h
    cases h
  · rw [if_neg (beq_f b1)] at h
    refine ⟨trivial, ?_⟩
    refine ⟨fun b2 => ?_, fun b2 => ?_⟩
    · rw [if_pos (beq_t b2)] at h
      cases h
    · rw [if_neg (beq_f b2)] at h
      refine ⟨trivial, ?_⟩
      refine ⟨fun b3 => ?_, fun b3 => ?_⟩
      · rw [if_pos (beq_t b3)] at h
        cases h
      · rw [if_neg (beq_f b3)] at h
        refine ⟨trivial, ?_⟩
        refine ⟨fun b4 => ?_, fun b4 => ?_⟩
        · rw [if_pos (beq_t b4)] at h
          obtain ⟨t5, ht5, h⟩ := of_bind h
          refine ⟨t5, ⟨soft_Div.fun_ ht5, trivial⟩, ?_⟩
          refine ⟨trivial, ?_⟩
          obtain rfl := Option.some.inj h
          exact ⟨trivial, trivial, rfl, rfl⟩
        · rw [if_neg (beq_f b4)] at h
          refine ⟨trivial, ?_⟩
          refine ⟨fun b6 => ?_, fun b6 => ?_⟩
          · rw [if_pos (beq_t b6)] at h
            cases h
          · rw [if_neg (beq_f b6)] at h
            refine ⟨trivial, ?_⟩
            refine ⟨trivial, ?_⟩
            refine ⟨trivial, ?_⟩
            obtain rfl := Option.some.inj h
            exact ⟨trivial, trivial, rfl, rfl⟩
/-! halter/alu.Cmp -/
def alu_Cmp.f (a0 : Int) (a1 : Int) (a2 : Int) : Option Int :=
  (soft_Cmp.f a0 a1).bind fun t1 =>
  if t1 = (-1 : Int) then
    some (bits .or .u32 (bits .and .u32 a2 (16 : Int)) (2 : Int))
  else
    if t1 = (0 : Int) then
      some (bits .or .u32 (bits .and .u32 a2 (16 : Int)) (1 : Int))
    else
      if t1 = (1 : Int) then
        some (bits .and .u32 a2 (16 : Int))
      else
        some (bits .or .u32 (bits .and .u32 a2 (16 : Int)) (4 : Int))
def alu_Cmp.R (r : Int) : Tm := .v (.one (.sc (.int .u32 r)))
theorem alu_Cmp.fun_ {a0 : Int} {a1 : Int} {a2 : Int} {r : Int} (h : alu_Cmp.f a0 a1 a2 = some r) : Fun cfg 15 [.one (.sc (.int .u64 a0)), .one (.sc (.int .u64 a1)), .one (.sc (.int .u32 a2))] [] (alu_Cmp.R r) [] := by
  unfold alu_Cmp.f at h
  refine fun_of_run cfg_ok (f := 15) (fn := Tryd.f15) Tryd.func15 rfl (by kernel_rfl) (rs := [.tmp 6]) rfl (nt := 26) rfl (l := fin) (k := (.call true [] (Int) (fun t1 => soft_Cmp.R t1) (fun t1 => (.br (.adj [] (.adj [] (.adj [] .nil))) (.br (.adj [] (.adj [] (.adj [] .nil))) (.br (.adj [] (.adj [] (.adj [] .nil))) (.adj [] (.adj [] (.adj [] (.adj [] .nil)))))))))) (to_goal (q := (True) ∧ (∃ t1 : Int, (Fun cfg 41 [.one (.sc (.int .u64 a0)), .one (.sc (.int .u64 a1))] [] (soft_Cmp.R t1) [] ∧ True) ∧ (True) ∧ (((t1 == (-1 : Int)) = true → (True ∧ (True) ∧ (True ∧ ((True) ∧ (True) ∧ (.v (.one (.sc (.int .u32 (bits .or .u32 (bits .and .u32 a2 (16 : Int)) (2 : Int))))) : Tm) = alu_Cmp.R r ∧ ([] : List Box) = [])))) ∧ ((t1 == (-1 : Int)) = false → (True) ∧ (((t1 == (0 : Int)) = true → (True ∧ (True) ∧ (True ∧ ((True) ∧ (True) ∧ (.v (.one (.sc (.int .u32 (bits .or .u32 (bits .and .u32 a2 (16 : Int)) (1 : Int))))) : Tm) = alu_Cmp.R r ∧ ([] : List Box) = [])))) ∧ ((t1 == (0 : Int)) = false → (True) ∧ (((t1 == (1 : Int)) = true → (True ∧ (True ∧ ((True) ∧ (True) ∧ (.v (.one (.sc (.int .u32 (bits .and .u32 a2 (16 : Int))))) : Tm) = alu_Cmp.R r ∧ ([] : List Box) = [])))) ∧ ((t1 == (1 : Int)) = false → (True ∧ (True ∧ (True) ∧ (True ∧ ((True) ∧ (True) ∧ (.v (.one (.sc (.int .u32 (bits .or .u32 (bits .and .u32 a2 (16 : Int)) (4 : Int))))) : Tm) = alu_Cmp.R r ∧ ([] : List Box) = [])))))))))))) (by kernel_rfl) ?_)
  refine ⟨trivial, ?_⟩
  obtain ⟨t1, ht1, h⟩ := of_bind h
  refine ⟨t1, ⟨soft_Cmp.fun_ ht1, trivial⟩, ?_⟩
  refine ⟨trivial, ?_⟩
  refine ⟨fun b2 => ?_, fun b2 => ?_⟩
  · rw [if_pos (beq_t b2)] at h
    refine ⟨trivial, ?_⟩
    refine ⟨trivial, ?_⟩
    refine ⟨trivial, ?_⟩
    obtain rfl := Option.some.inj h
    exact ⟨trivial, trivial, rfl, rfl⟩
  · rw [if_neg (beq_f b2)] at h
    refine ⟨trivial, ?_⟩
    refine ⟨fun b3 => ?_, fun b3 => ?_⟩
    · rw [if_pos (beq_t b3)] at h
      refine ⟨trivial, ?_⟩
      refine ⟨trivial, ?_⟩
      refine ⟨trivial, ?_⟩
      obtain rfl := Option.some.inj h
      exact ⟨trivial, trivial, rfl, rfl⟩
    · rw [if_neg (beq_f b3)] at h
      refine ⟨trivial, ?_⟩
      refine ⟨fun b4 => ?_, fun b4 => ?_⟩
      · rw [if_pos (beq_t b4)] at h
        refine ⟨trivial, ?_⟩
        refine ⟨trivial, ?_⟩
        obtain rfl := Option.some.inj h
        exact ⟨trivial, trivial, rfl, rfl⟩
      · rw [if_neg (beq_f b4)] at h
        refine ⟨trivial, ?_⟩
        refine ⟨trivial, ?_⟩
        refine ⟨trivial, ?_⟩
        refine ⟨trivial, ?_⟩
        obtain rfl := Option.some.inj h
        exact ⟨trivial, trivial, rfl, rfl⟩
/-! halter/halterlaw11.sure -/
def halterlaw11_sure.f : Option Bool :=
  (alu_Do.f (16 : Int) (5 : Int) (5 : Int) (16 : Int)).bind fun t1 =>
  (alu_Float.f (36 : Int) (4607182418800017408 : Int) (0 : Int)).bind fun t2 =>
  (alu_Taken.f (22 : Int) t1.2.1).bind fun t3 =>
  if t1.2.2 = none then
    if t2.2 = none then
      if t3.2 = none then
        if t1.1 = (5 : Int) then
          if t1.2.1 = (17 : Int) then
            if t2.1 = (9218868437227405312 : Int) then
              if t3.1 = true then
                (alu_Cmp.f (0 : Int) (1 : Int) (0 : Int)).bind fun t11 =>
                some (t11 == (2 : Int))
              else
                some false
            else
              some false
          else
            some false
        else
          some false
      else
        some false
    else
      some false
  else
    some false
def halterlaw11_sure.R (r : Bool) : Tm := .v (.one (.sc (.bool r)))
theorem halterlaw11_sure.fun_ {r : Bool} (h : halterlaw11_sure.f = some r) : Fun cfg 12 [] [] (halterlaw11_sure.R r) [] := by
  unfold halterlaw11_sure.f at h
  refine fun_of_run cfg_ok (f := 12) (fn := Tryd.f12) Tryd.func12 rfl (by kernel_rfl) (rs := [.tmp 0]) rfl (nt := 51) rfl (l := fin) (k := (.call true [] (Int × Int × (Option Int)) (fun t1 => alu_Do.R t1) (fun t1 => (.call true [] (Int × (Option Int)) (fun t2 => alu_Float.R t2) (fun t2 => (.call true [] (Bool × (Option Int)) (fun t3 => alu_Taken.R t3) (fun t3 => (.br (.one true (.one true (.br (.one true (.one true (.br (.one true (.one true (.br (.one true (.one true (.br (.one true (.one true (.br (.one true (.br (.call true [] (Int) (fun t11 => alu_Cmp.R t11) (fun t11 => (.one true (.one true (.adj [] (.adj [] .nil)))))) (.one false (.one false (.adj [] (.adj [] .nil)))))) (.one false (.one false (.one false (.one false (.adj [] (.adj [] .nil))))))))) (.one false (.one false (.one false (.one false (.one false (.one false (.one false (.adj [] (.adj [] .nil)))))))))))) (.one false (.one false (.one false (.one false (.one false (.one false (.one false (.one false (.one false (.one false (.adj [] (.adj [] .nil))))))))))))))) (.one false (.one false (.one false (.one false (.one false (.one false (.one false (.one false (.one false (.one false (.one false (.one false (.one false (.adj [] (.adj [] .nil)))))))))))))))))) (.one false (.one false (.one false (.one false (.one false (.one false (.one false (.one false (.one false (.one false (.one false (.one false (.one false (.one false (.one false (.one false (.adj [] (.adj [] .nil))))))))))))))))))))) (.one false (.one false (.one false (.one false (.one false (.one false (.one false (.one false (.one false (.one false (.one false (.one false (.one false (.one false (.one false (.one false (.one false (.one false (.one false (.adj [] (.adj [] .nil))))))))))))))))))))))))))))) (to_goal (q := (∃ t1 : Int × Int × (Option Int), (Fun cfg 7 [.one (.sc (.int .i64 (16 : Int))), .one (.sc (.int .u32 (5 : Int))), .one (.sc (.int .u32 (5 : Int))), .one (.sc (.int .u32 (16 : Int)))] [] (alu_Do.R t1) [] ∧ True) ∧ (∃ t2 : Int × (Option Int), (Fun cfg 13 [.one (.sc (.int .i64 (36 : Int))), .one (.sc (.int .u64 (4607182418800017408 : Int))), .one (.sc (.int .u64 (0 : Int)))] [] (alu_Float.R t2) [] ∧ True) ∧ (∃ t3 : Bool × (Option Int), (Fun cfg 9 [.one (.sc (.int .i64 (22 : Int))), .one (.sc (.int .u32 t1.2.1))] [] (alu_Taken.R t3) [] ∧ True) ∧ (True) ∧ (((Option.isNone (z2 t1)) = true → ((Option.isNone (z2 t1)) = true ∧ (True) ∧ ((Option.isNone (z2 t1)) = true ∧ (((Option.isNone t2.2) = true → ((Option.isNone t2.2) = true ∧ (True) ∧ ((Option.isNone t2.2) = true ∧ (((Option.isNone t3.2) = true → ((Option.isNone t3.2) = true ∧ (True) ∧ ((Option.isNone t3.2) = true ∧ (((t1.1 == (5 : Int)) = true → ((t1.1 == (5 : Int)) = true ∧ (True) ∧ ((t1.1 == (5 : Int)) = true ∧ (((t1.2.1 == (17 : Int)) = true → ((t1.2.1 == (17 : Int)) = true ∧ (True) ∧ ((t1.2.1 == (17 : Int)) = true ∧ (((t2.1 == (9218868437227405312 : Int)) = true → ((t2.1 == (9218868437227405312 : Int)) = true ∧ ((t3.1 = true → (∃ t11 : Int, (Fun cfg 15 [.one (.sc (.int .u64 (0 : Int))), .one (.sc (.int .u64 (1 : Int))), .one (.sc (.int .u32 (0 : Int)))] [] (alu_Cmp.R t11) [] ∧ True) ∧ (t3.1 = true ∧ (True) ∧ (t3.1 = true ∧ (True ∧ ((True) ∧ (True) ∧ (.v (.one (.sc (.bool (t11 == (2 : Int))))) : Tm) = halterlaw11_sure.R r ∧ ([] : List Box) = [])))))) ∧ (t3.1 = false → (t3.1 = false ∧ (t3.1 = false ∧ (True ∧ ((True) ∧ (True) ∧ (.v (.one (.sc (.bool false))) : Tm) = halterlaw11_sure.R r ∧ ([] : List Box) = [])))))))) ∧ ((t2.1 == (9218868437227405312 : Int)) = false → ((t2.1 == (9218868437227405312 : Int)) = false ∧ (false = false ∧ (false = false ∧ (false = false ∧ (True ∧ ((True) ∧ (True) ∧ (.v (.one (.sc (.bool false))) : Tm) = halterlaw11_sure.R r ∧ ([] : List Box) = []))))))))))) ∧ ((t1.2.1 == (17 : Int)) = false → ((t1.2.1 == (17 : Int)) = false ∧ ((t1.2.1 == (17 : Int)) = false ∧ (false = false ∧ (false = false ∧ (false = false ∧ (false = false ∧ (false = false ∧ (True ∧ ((True) ∧ (True) ∧ (.v (.one (.sc (.bool false))) : Tm) = halterlaw11_sure.R r ∧ ([] : List Box) = [])))))))))))))) ∧ ((t1.1 == (5 : Int)) = false → ((t1.1 == (5 : Int)) = false ∧ ((t1.1 == (5 : Int)) = false ∧ (false = false ∧ (false = false ∧ (false = false ∧ (false = false ∧ (false = false ∧ (false = false ∧ (false = false ∧ (false = false ∧ (True ∧ ((True) ∧ (True) ∧ (.v (.one (.sc (.bool false))) : Tm) = halterlaw11_sure.R r ∧ ([] : List Box) = []))))))))))))))))) ∧ ((Option.isNone t3.2) = false → ((Option.isNone t3.2) = false ∧ ((Option.isNone t3.2) = false ∧ (false = false ∧ (false = false ∧ (false = false ∧ (false = false ∧ (false = false ∧ (false = false ∧ (false = false ∧ (false = false ∧ (false = false ∧ (false = false ∧ (false = false ∧ (True ∧ ((True) ∧ (True) ∧ (.v (.one (.sc (.bool false))) : Tm) = halterlaw11_sure.R r ∧ ([] : List Box) = [])))))))))))))))))))) ∧ ((Option.isNone t2.2) = false → ((Option.isNone t2.2) = false ∧ ((Option.isNone t2.2) = false ∧ (false = false ∧ (false = false ∧ (false = false ∧ (false = false ∧ (false = false ∧ (false = false ∧ (false = false ∧ (false = false ∧ (false = false ∧ (false = false ∧ (false = false ∧ (false = false ∧ (false = false ∧ (false = false ∧ (True ∧ ((True) ∧ (True) ∧ (.v (.one (.sc (.bool false))) : Tm) = halterlaw11_sure.R r ∧ ([] : List Box) = []))))))))))))))))))))))) ∧ ((Option.isNone (z2 t1)) = false → ((Option.isNone (z2 t1)) = false ∧ ((Option.isNone (z2 t1)) = false ∧ (false = false ∧ (false = false ∧ (false = false ∧ (false = false ∧ (false = false ∧ (false = false ∧ (false = false ∧ (false = false ∧ (false = false ∧ (false = false ∧ (false = false ∧ (false = false ∧ (false = false ∧ (false = false ∧ (false = false ∧ (false = false ∧ (false = false ∧ (True ∧ ((True) ∧ (True) ∧ (.v (.one (.sc (.bool false))) : Tm) = halterlaw11_sure.R r ∧ ([] : List Box) = []))))))))))))))))))))))))))) (by kernel_rfl) ?_)
  obtain ⟨t1, ht1, h⟩ := of_bind h
  refine ⟨t1, ⟨alu_Do.fun_ ht1, trivial⟩, ?_⟩
  obtain ⟨t2, ht2, h⟩ := of_bind h
  refine ⟨t2, ⟨alu_Float.fun_ ht2, trivial⟩, ?_⟩
  obtain ⟨t3, ht3, h⟩ := of_bind h
  refine ⟨t3, ⟨alu_Taken.fun_ ht3, trivial⟩, ?_⟩
  refine ⟨trivial, ?_⟩
  refine ⟨fun b4 => ?_, fun b4 => ?_⟩
  · rw [if_pos (none_t b4)] at h
    refine ⟨b4, ?_⟩
    refine ⟨trivial, ?_⟩
    refine ⟨b4, ?_⟩
    refine ⟨fun b5 => ?_, fun b5 => ?_⟩
    · rw [if_pos (none_t b5)] at h
      refine ⟨b5, ?_⟩
      refine ⟨trivial, ?_⟩
      refine ⟨b5, ?_⟩
      refine ⟨fun b6 => ?_, fun b6 => ?_⟩
      · rw [if_pos (none_t b6)] at h
        refine ⟨b6, ?_⟩
        refine ⟨trivial, ?_⟩
        refine ⟨b6, ?_⟩
        refine ⟨fun b7 => ?_, fun b7 => ?_⟩
        · rw [if_pos (beq_t b7)] at h
          refine ⟨b7, ?_⟩
          refine ⟨trivial, ?_⟩
          refine ⟨b7, ?_⟩
          refine ⟨fun b8 => ?_, fun b8 => ?_⟩
          · rw [if_pos (beq_t b8)] at h
            refine ⟨b8, ?_⟩
            refine ⟨trivial, ?_⟩
            refine ⟨b8, ?_⟩
            refine ⟨fun b9 => ?_, fun b9 => ?_⟩
            · rw [if_pos (beq_t b9)] at h
              refine ⟨b9, ?_⟩
              refine ⟨fun b10 => ?_, fun b10 => ?_⟩
              · rw [if_pos b10] at h
                obtain ⟨t11, ht11, h⟩ := of_bind h
                refine ⟨t11, ⟨alu_Cmp.fun_ ht11, trivial⟩, ?_⟩
                refine ⟨b10, ?_⟩
                refine ⟨trivial, ?_⟩
                refine ⟨b10, ?_⟩
                refine ⟨trivial, ?_⟩
                obtain rfl := Option.some.inj h
                exact ⟨trivial, trivial, rfl, rfl⟩
              · rw [if_neg (ff b10)] at h
                refine ⟨b10, ?_⟩
                refine ⟨b10, ?_⟩
                refine ⟨trivial, ?_⟩
                obtain rfl := Option.some.inj h
                exact ⟨trivial, trivial, rfl, rfl⟩
            · rw [if_neg (beq_f b9)] at h
              refine ⟨b9, ?_⟩
              refine ⟨rfl, ?_⟩
              refine ⟨rfl, ?_⟩
              refine ⟨rfl, ?_⟩
              refine ⟨trivial, ?_⟩
              obtain rfl := Option.some.inj h
              exact ⟨trivial, trivial, rfl, rfl⟩
          · rw [if_neg (beq_f b8)] at h
            refine ⟨b8, ?_⟩
            refine ⟨b8, ?_⟩
            refine ⟨rfl, ?_⟩
            refine ⟨rfl, ?_⟩
            refine ⟨rfl, ?_⟩
            refine ⟨rfl, ?_⟩
            refine ⟨rfl, ?_⟩
            refine ⟨trivial, ?_⟩
            obtain rfl := Option.some.inj h
            exact ⟨trivial, trivial, rfl, rfl⟩
        · rw [if_neg (beq_f b7)] at h
          refine ⟨b7, ?_⟩
          refine ⟨b7, ?_⟩
          refine ⟨rfl, ?_⟩
          refine ⟨rfl, ?_⟩
          refine ⟨rfl, ?_⟩
          refine ⟨rfl, ?_⟩
          refine ⟨rfl, ?_⟩
          refine ⟨rfl, ?_⟩
          refine ⟨rfl, ?_⟩
          refine ⟨rfl, ?_⟩
          refine ⟨trivial, ?_⟩
          obtain rfl := Option.some.inj h
          exact ⟨trivial, trivial, rfl, rfl⟩
      · rw [if_neg (none_f b6)] at h
        refine ⟨b6, ?_⟩
        refine ⟨b6, ?_⟩
        refine ⟨rfl, ?_⟩
        refine ⟨rfl, ?_⟩
        refine ⟨rfl, ?_⟩
        refine ⟨rfl, ?_⟩
        refine ⟨rfl, ?_⟩
        refine ⟨rfl, ?_⟩
        refine ⟨rfl, ?_⟩
        refine ⟨rfl, ?_⟩
        refine ⟨rfl, ?_⟩
        refine ⟨rfl, ?_⟩
        refine ⟨rfl, ?_⟩
        refine ⟨trivial, ?_⟩
        obtain rfl := Option.some.inj h
        exact ⟨trivial, trivial, rfl, rfl⟩
    · rw [if_neg (none_f b5)] at h
      refine ⟨b5, ?_⟩
      refine ⟨b5, ?_⟩
      refine ⟨rfl, ?_⟩
      refine ⟨rfl, ?_⟩
      refine ⟨rfl, ?_⟩
      refine ⟨rfl, ?_⟩
      refine ⟨rfl, ?_⟩
      refine ⟨rfl, ?_⟩
      refine ⟨rfl, ?_⟩
      refine ⟨rfl, ?_⟩
      refine ⟨rfl, ?_⟩
      refine ⟨rfl, ?_⟩
      refine ⟨rfl, ?_⟩
      refine ⟨rfl, ?_⟩
      refine ⟨rfl, ?_⟩
      refine ⟨rfl, ?_⟩
      refine ⟨trivial, ?_⟩
      obtain rfl := Option.some.inj h
      exact ⟨trivial, trivial, rfl, rfl⟩
  · rw [if_neg (none_f b4)] at h
    refine ⟨b4, ?_⟩
    refine ⟨b4, ?_⟩
    refine ⟨rfl, ?_⟩
    refine ⟨rfl, ?_⟩
    refine ⟨rfl, ?_⟩
    refine ⟨rfl, ?_⟩
    refine ⟨rfl, ?_⟩
    refine ⟨rfl, ?_⟩
    refine ⟨rfl, ?_⟩
    refine ⟨rfl, ?_⟩
    refine ⟨rfl, ?_⟩
    refine ⟨rfl, ?_⟩
    refine ⟨rfl, ?_⟩
    refine ⟨rfl, ?_⟩
    refine ⟨rfl, ?_⟩
    refine ⟨rfl, ?_⟩
    refine ⟨rfl, ?_⟩
    refine ⟨rfl, ?_⟩
    refine ⟨rfl, ?_⟩
    refine ⟨trivial, ?_⟩
    obtain rfl := Option.some.inj h
    exact ⟨trivial, trivial, rfl, rfl⟩
/-! halter/halterlaw11.AluDoes -/
def halterlaw11_AluDoes.f (a0 : Int) (a1 : (List Int)) (a2 : Int) : Option Bool :=
  (alu_Do.f a0 (List.getD a1 0 (0 : Int)) (List.getD a1 1 (0 : Int)) (List.getD a1 2 (0 : Int))).bind fun t1 =>
  (halterref11_Do.f a0 (List.getD a1 0 (0 : Int)) (List.getD a1 1 (0 : Int)) (List.getD a1 2 (0 : Int))).bind fun t2 =>
  (alu_Taken.f a2 (List.getD a1 2 (0 : Int))).bind fun t3 =>
  (halterref11_Taken.f a2 (List.getD a1 2 (0 : Int))).bind fun t4 =>
  if t1.1 = t2.1 then
    if t1.2.1 = t2.2.1 then
      (num.f t1.2.2).bind fun t7 =>
      if t7 = t2.2.2 then
        if t3.1 = t4.1 then
          (num.f t3.2).bind fun t10 =>
          if t10 = t4.2 then
            halterlaw11_sure.f.bind fun t12 =>
            some t12
          else
            some false
        else
          some false
      else
        some false
    else
      some false
  else
    some false
def halterlaw11_AluDoes.R (r : Bool) : Tm := .v (.one (.sc (.bool r)))
theorem halterlaw11_AluDoes.fun_ {a0 : Int} {a1 : (List Int)} {a2 : Int} {r : Bool} (h : halterlaw11_AluDoes.f a0 a1 a2 = some r) : Fun cfg 3 [.one (.sc (.int .i64 a0)), .agg [.row 3 (.int .u32) a1], .one (.sc (.int .i64 a2))] [] (halterlaw11_AluDoes.R r) [] := by
  unfold halterlaw11_AluDoes.f at h
  refine fun_of_run cfg_ok (f := 3) (fn := Tryd.f3) Tryd.func3 rfl (by kernel_rfl) (rs := [.tmp 6]) rfl (nt := 83) rfl (l := fin) (k := (.call true [] (Int × Int × (Option Int)) (fun t1 => alu_Do.R t1) (fun t1 => (.call true [] (Int × Int × Int) (fun t2 => halterref11_Do.R t2) (fun t2 => (.call true [] (Bool × (Option Int)) (fun t3 => alu_Taken.R t3) (fun t3 => (.call true [] (Bool × Int) (fun t4 => halterref11_Taken.R t4) (fun t4 => (.br (.one true (.one true (.one true (.br (.one true (.call true [] (Int) (fun t7 => num.R t7) (fun t7 => (.one true (.one true (.one true (.br (.one true (.one true (.one true (.br (.one true (.call true [] (Int) (fun t10 => num.R t10) (fun t10 => (.one true (.one true (.one true (.br (.call true [] (Bool) (fun t12 => halterlaw11_sure.R t12) (fun t12 => (.one true (.adj [] (.adj [.drop 0] .nil))))) (.one false (.adj [] (.adj [.drop 0] .nil)))))))))) (.one false (.one false (.one false (.one false (.one false (.one false (.adj [] (.adj [.drop 0] .nil)))))))))))) (.one false (.one false (.one false (.one false (.one false (.one false (.one false (.one false (.one false (.one false (.adj [] (.adj [.drop 0] .nil))))))))))))))))))) (.one false (.one false (.one false (.one false (.one false (.one false (.one false (.one false (.one false (.one false (.one false (.one false (.one false (.one false (.one false (.adj [] (.adj [.drop 0] .nil))))))))))))))))))))) (.one false (.one false (.one false (.one false (.one false (.one false (.one false (.one false (.one false (.one false (.one false (.one false (.one false (.one false (.one false (.one false (.one false (.one false (.one false (.adj [] (.adj [.drop 0] .nil))))))))))))))))))))))))))))))) (to_goal (q := (0 ≤ (0 : Int) ∧ (0 : Int) < ((3 : Nat) : Int)) ∧ (0 < 3) ∧ (0 ≤ (1 : Int) ∧ (1 : Int) < ((3 : Nat) : Int)) ∧ (1 < 3) ∧ (0 ≤ (2 : Int) ∧ (2 : Int) < ((3 : Nat) : Int)) ∧ (2 < 3) ∧ (∃ t1 : Int × Int × (Option Int), (Fun cfg 7 [.one (.sc (.int .i64 a0)), .one (.sc (.int .u32 (List.getD a1 0 (0 : Int)))), .one (.sc (.int .u32 (List.getD a1 1 (0 : Int)))), .one (.sc (.int .u32 (List.getD a1 2 (0 : Int))))] [] (alu_Do.R t1) [] ∧ True) ∧ (0 ≤ (0 : Int) ∧ (0 : Int) < ((3 : Nat) : Int)) ∧ (0 < 3) ∧ (0 ≤ (1 : Int) ∧ (1 : Int) < ((3 : Nat) : Int)) ∧ (1 < 3) ∧ (0 ≤ (2 : Int) ∧ (2 : Int) < ((3 : Nat) : Int)) ∧ (2 < 3) ∧ (∃ t2 : Int × Int × Int, (Fun cfg 8 [.one (.sc (.int .i64 a0)), .one (.sc (.int .u32 (List.getD a1 0 (0 : Int)))), .one (.sc (.int .u32 (List.getD a1 1 (0 : Int)))), .one (.sc (.int .u32 (List.getD a1 2 (0 : Int))))] [] (halterref11_Do.R t2) [] ∧ True) ∧ (0 ≤ (2 : Int) ∧ (2 : Int) < ((3 : Nat) : Int)) ∧ (2 < 3) ∧ (∃ t3 : Bool × (Option Int), (Fun cfg 9 [.one (.sc (.int .i64 a2)), .one (.sc (.int .u32 (List.getD a1 2 (0 : Int))))] [] (alu_Taken.R t3) [] ∧ True) ∧ (0 ≤ (2 : Int) ∧ (2 : Int) < ((3 : Nat) : Int)) ∧ (2 < 3) ∧ (∃ t4 : Bool × Int, (Fun cfg 10 [.one (.sc (.int .i64 a2)), .one (.sc (.int .u32 (List.getD a1 2 (0 : Int))))] [] (halterref11_Taken.R t4) [] ∧ True) ∧ (True) ∧ (((t1.1 == t2.1) = true → ((t1.1 == t2.1) = true ∧ ((t1.1 == t2.1) = true ∧ (True) ∧ ((t1.1 == t2.1) = true ∧ (((t1.2.1 == t2.2.1) = true → ((t1.2.1 == t2.2.1) = true ∧ (∃ t7 : Int, (Fun cfg 11 [.one (.err (z2 t1))] [] (num.R t7) [] ∧ True) ∧ ((t1.2.1 == t2.2.1) = true ∧ ((t1.2.1 == t2.2.1) = true ∧ (True) ∧ ((t1.2.1 == t2.2.1) = true ∧ (((t7 == (z2 t2)) = true → ((t7 == (z2 t2)) = true ∧ ((t7 == (z2 t2)) = true ∧ (True) ∧ ((t7 == (z2 t2)) = true ∧ (((t3.1 == t4.1) = true → ((t3.1 == t4.1) = true ∧ (∃ t10 : Int, (Fun cfg 11 [.one (.err t3.2)] [] (num.R t10) [] ∧ True) ∧ ((t3.1 == t4.1) = true ∧ ((t3.1 == t4.1) = true ∧ (True) ∧ ((t3.1 == t4.1) = true ∧ (((t10 == t4.2) = true → (∃ t12 : Bool, (Fun cfg 12 [] [] (halterlaw11_sure.R t12) [] ∧ True) ∧ ((t10 == t4.2) = true ∧ (True ∧ ((True) ∧ ((True) ∧ True) ∧ (.v (.one (.sc (.bool t12))) : Tm) = halterlaw11_AluDoes.R r ∧ ([] : List Box) = []))))) ∧ ((t10 == t4.2) = false → ((t10 == t4.2) = false ∧ (True ∧ ((True) ∧ ((True) ∧ True) ∧ (.v (.one (.sc (.bool false))) : Tm) = halterlaw11_AluDoes.R r ∧ ([] : List Box) = []))))))))))) ∧ ((t3.1 == t4.1) = false → ((t3.1 == t4.1) = false ∧ ((t3.1 == t4.1) = false ∧ ((t3.1 == t4.1) = false ∧ ((t3.1 == t4.1) = false ∧ (false = false ∧ (false = false ∧ (True ∧ ((True) ∧ ((True) ∧ True) ∧ (.v (.one (.sc (.bool false))) : Tm) = halterlaw11_AluDoes.R r ∧ ([] : List Box) = [])))))))))))))) ∧ ((t7 == (z2 t2)) = false → ((t7 == (z2 t2)) = false ∧ ((t7 == (z2 t2)) = false ∧ ((t7 == (z2 t2)) = false ∧ (false = false ∧ (false = false ∧ (false = false ∧ (false = false ∧ (false = false ∧ (false = false ∧ (false = false ∧ (True ∧ ((True) ∧ ((True) ∧ True) ∧ (.v (.one (.sc (.bool false))) : Tm) = halterlaw11_AluDoes.R r ∧ ([] : List Box) = [])))))))))))))))))))) ∧ ((t1.2.1 == t2.2.1) = false → ((t1.2.1 == t2.2.1) = false ∧ ((t1.2.1 == t2.2.1) = false ∧ ((t1.2.1 == t2.2.1) = false ∧ ((t1.2.1 == t2.2.1) = false ∧ (false = false ∧ (false = false ∧ (false = false ∧ (false = false ∧ (false = false ∧ (false = false ∧ (false = false ∧ (false = false ∧ (false = false ∧ (false = false ∧ (false = false ∧ (True ∧ ((True) ∧ ((True) ∧ True) ∧ (.v (.one (.sc (.bool false))) : Tm) = halterlaw11_AluDoes.R r ∧ ([] : List Box) = []))))))))))))))))))))))) ∧ ((t1.1 == t2.1) = false → ((t1.1 == t2.1) = false ∧ ((t1.1 == t2.1) = false ∧ ((t1.1 == t2.1) = false ∧ (false = false ∧ (false = false ∧ (false = false ∧ (false = false ∧ (false = false ∧ (false = false ∧ (false = false ∧ (false = false ∧ (false = false ∧ (false = false ∧ (false = false ∧ (false = false ∧ (false = false ∧ (false = false ∧ (false = false ∧ (false = false ∧ (True ∧ ((True) ∧ ((True) ∧ True) ∧ (.v (.one (.sc (.bool false))) : Tm) = halterlaw11_AluDoes.R r ∧ ([] : List Box) = [])))))))))))))))))))))))))))) (by kernel_rfl) ?_)
  refine ⟨(by decide), ?_⟩
  refine ⟨(by decide), ?_⟩
  refine ⟨(by decide), ?_⟩
  refine ⟨(by decide), ?_⟩
  refine ⟨(by decide), ?_⟩
  refine ⟨(by decide), ?_⟩
  obtain ⟨t1, ht1, h⟩ := of_bind h
  refine ⟨t1, ⟨alu_Do.fun_ ht1, trivial⟩, ?_⟩
  refine ⟨(by decide), ?_⟩
  refine ⟨(by decide), ?_⟩
  refine ⟨(by decide), ?_⟩
  refine ⟨(by decide), ?_⟩
  refine ⟨(by decide), ?_⟩
  refine ⟨(by decide), ?_⟩
  obtain ⟨t2, ht2, h⟩ := of_bind h
  refine ⟨t2, ⟨halterref11_Do.fun_ ht2, trivial⟩, ?_⟩
  refine ⟨(by decide), ?_⟩
  refine ⟨(by decide), ?_⟩
  obtain ⟨t3, ht3, h⟩ := of_bind h
  refine ⟨t3, ⟨alu_Taken.fun_ ht3, trivial⟩, ?_⟩
  refine ⟨(by decide), ?_⟩
  refine ⟨(by decide), ?_⟩
  obtain ⟨t4, ht4, h⟩ := of_bind h
  refine ⟨t4, ⟨halterref11_Taken.fun_ ht4, trivial⟩, ?_⟩
  refine ⟨trivial, ?_⟩
  refine ⟨fun b5 => ?_, fun b5 => ?_⟩
  · rw [if_pos (beq_t b5)] at h
    refine ⟨b5, ?_⟩
    refine ⟨b5, ?_⟩
    refine ⟨trivial, ?_⟩
    refine ⟨b5, ?_⟩
    refine ⟨fun b6 => ?_, fun b6 => ?_⟩
    · rw [if_pos (beq_t b6)] at h
      refine ⟨b6, ?_⟩
      obtain ⟨t7, ht7, h⟩ := of_bind h
      refine ⟨t7, ⟨num.fun_ ht7, trivial⟩, ?_⟩
      refine ⟨b6, ?_⟩
      refine ⟨b6, ?_⟩
      refine ⟨trivial, ?_⟩
      refine ⟨b6, ?_⟩
      refine ⟨fun b8 => ?_, fun b8 => ?_⟩
      · rw [if_pos (beq_t b8)] at h
        refine ⟨b8, ?_⟩
        refine ⟨b8, ?_⟩
        refine ⟨trivial, ?_⟩
        refine ⟨b8, ?_⟩
        refine ⟨fun b9 => ?_, fun b9 => ?_⟩
        · rw [if_pos (bb_t b9)] at h
          refine ⟨b9, ?_⟩
          obtain ⟨t10, ht10, h⟩ := of_bind h
          refine ⟨t10, ⟨num.fun_ ht10, trivial⟩, ?_⟩
          refine ⟨b9, ?_⟩
          refine ⟨b9, ?_⟩
          refine ⟨trivial, ?_⟩
          refine ⟨b9, ?_⟩
          refine ⟨fun b11 => ?_, fun b11 => ?_⟩
          · rw [if_pos (beq_t b11)] at h
            obtain ⟨t12, ht12, h⟩ := of_bind h
            refine ⟨t12, ⟨halterlaw11_sure.fun_ ht12, trivial⟩, ?_⟩
            refine ⟨b11, ?_⟩
            refine ⟨trivial, ?_⟩
            obtain rfl := Option.some.inj h
            exact ⟨trivial, ⟨trivial, trivial⟩, rfl, rfl⟩
          · rw [if_neg (beq_f b11)] at h
            refine ⟨b11, ?_⟩
            refine ⟨trivial, ?_⟩
            obtain rfl := Option.some.inj h
            exact ⟨trivial, ⟨trivial, trivial⟩, rfl, rfl⟩
        · rw [if_neg (bb_f b9)] at h
          refine ⟨b9, ?_⟩
          refine ⟨b9, ?_⟩
          refine ⟨b9, ?_⟩
          refine ⟨b9, ?_⟩
          refine ⟨rfl, ?_⟩
          refine ⟨rfl, ?_⟩
          refine ⟨trivial, ?_⟩
          obtain rfl := Option.some.inj h
          exact ⟨trivial, ⟨trivial, trivial⟩, rfl, rfl⟩
      · rw [if_neg (beq_f b8)] at h
        refine ⟨b8, ?_⟩
        refine ⟨b8, ?_⟩
        refine ⟨b8, ?_⟩
        refine ⟨rfl, ?_⟩
        refine ⟨rfl, ?_⟩
        refine ⟨rfl, ?_⟩
        refine ⟨rfl, ?_⟩
        refine ⟨rfl, ?_⟩
        refine ⟨rfl, ?_⟩
        refine ⟨rfl, ?_⟩
        refine ⟨trivial, ?_⟩
        obtain rfl := Option.some.inj h
        exact ⟨trivial, ⟨trivial, trivial⟩, rfl, rfl⟩
    · rw [if_neg (beq_f b6)] at h
      refine ⟨b6, ?_⟩
      refine ⟨b6, ?_⟩
      refine ⟨b6, ?_⟩
      refine ⟨b6, ?_⟩
      refine ⟨rfl, ?_⟩
      refine ⟨rfl, ?_⟩
      refine ⟨rfl, ?_⟩
      refine ⟨rfl, ?_⟩
      refine ⟨rfl, ?_⟩
      refine ⟨rfl, ?_⟩
      refine ⟨rfl, ?_⟩
      refine ⟨rfl, ?_⟩
      refine ⟨rfl, ?_⟩
      refine ⟨rfl, ?_⟩
      refine ⟨rfl, ?_⟩
      refine ⟨trivial, ?_⟩
      obtain rfl := Option.some.inj h
      exact ⟨trivial, ⟨trivial, trivial⟩, rfl, rfl⟩
  · rw [if_neg (beq_f b5)] at h
    refine ⟨b5, ?_⟩
    refine ⟨b5, ?_⟩
    refine ⟨b5, ?_⟩
    refine ⟨rfl, ?_⟩
    refine ⟨rfl, ?_⟩
    refine ⟨rfl, ?_⟩
    refine ⟨rfl, ?_⟩
    refine ⟨rfl, ?_⟩
    refine ⟨rfl, ?_⟩
    refine ⟨rfl, ?_⟩
    refine ⟨rfl, ?_⟩
    refine ⟨rfl, ?_⟩
    refine ⟨rfl, ?_⟩
    refine ⟨rfl, ?_⟩
    refine ⟨rfl, ?_⟩
    refine ⟨rfl, ?_⟩
    refine ⟨rfl, ?_⟩
    refine ⟨rfl, ?_⟩
    refine ⟨rfl, ?_⟩
    refine ⟨trivial, ?_⟩
    obtain rfl := Option.some.inj h
    exact ⟨trivial, ⟨trivial, trivial⟩, rfl, rfl⟩
end Go.Proofs.YtfoejbiifolnnaaDoorGAluDoes
