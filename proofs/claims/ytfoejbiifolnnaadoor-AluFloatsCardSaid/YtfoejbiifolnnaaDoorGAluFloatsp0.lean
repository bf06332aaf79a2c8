/- Printed by gen.py: what functions of the program compute, in plain Lean, and that they do. -/
import Derived.Test.YtfoejbiifolnnaaDoorE15
import Derived.Test.YtfoejbiifolnnaaDoorN
import Derived.Test.YtfoejbiifolnnaaDoorF
set_option linter.unusedVariables false
set_option maxRecDepth 100000
set_option maxHeartbeats 4000000
namespace Go.Proofs.YtfoejbiifolnnaaDoorGAluFloats
open Go Go.Proofs.YtfoejbiifolnnaaDoorE
def tiL : List (Nat × TI) := [
  (3, ⟨1, 8, false, .int .i64, [.c (.sc (.int .i64 (0 : Int)))], some (.int .i64)⟩),
  (4, ⟨1, 1, false, .bool, [.c (.sc (.bool false))], some .bool⟩),
  (21, ⟨1, 4, false, .int .i32, [.c (.sc (.int .i32 (0 : Int)))], some (.int .i32)⟩),
  (22, ⟨1, 4, false, .int .u32, [.c (.sc (.int .u32 (0 : Int)))], some (.int .u32)⟩),
  (25, ⟨1, 16, false, .iface, [.c (.err none)], none⟩),
  (37, ⟨1, 8, false, .int .u64, [.c (.sc (.int .u64 (0 : Int)))], some (.int .u64)⟩),
  (38, ⟨2, 16, true, (.array 2 37), [.row 2 (.int .u64) (List.replicate 2 (0 : Int))], some (.arr 2 (.int .u64))⟩),
  (63, ⟨1, 8, false, .int .i64, [.c (.sc (.int .i64 (0 : Int)))], some (.int .i64)⟩),
  (93, ⟨4, 32, true, (.struct [(0, 4), (1, 37), (2, 3), (3, 4)]), [.c (.sc (.bool false)), .c (.sc (.int .u64 (0 : Int))), .c (.sc (.int .i64 (0 : Int))), .c (.sc (.bool false))], some (.pair .bool (.pair (.int .u64) (.pair (.int .i64) .bool)))⟩)]
def tabs : List (Nat × IntKind × List Int) := []
noncomputable def cfg : Cfg := ⟨Tryd.prog, 63, [(⟨0, 0, none⟩, .iface 102 (.agg #[.pointer (some ⟨2, 25, none⟩)]))] ++ tabs.flatMap tabG, tiL, [], tabs⟩
theorem cfg_ok : COk cfg := by
  refine ⟨fun p hp => ?_, by kernel_rfl, fun p hp => ?_, fun t ht => ?_, fun x hx y hy => List.mem_append_right _ (List.mem_flatMap.2 ⟨x, hx, hy⟩)⟩
  · simp only [cfg, tiL, List.mem_cons, List.not_mem_nil, or_false] at hp
    rcases hp with rfl | rfl | rfl | rfl | rfl | rfl | rfl | rfl | rfl <;> exact ⟨by kernel_rfl, by kernel_rfl, by kernel_rfl, by kernel_rfl, by kernel_rfl, by kernel_rfl⟩
  · simp only [cfg, tiL, List.mem_cons, List.not_mem_nil, or_false] at hp
    rcases hp with rfl | rfl | rfl | rfl | rfl | rfl | rfl | rfl | rfl <;> intro fs hfs bl hbl
    · cases hfs
    · cases hfs
    · cases hfs
    · cases hfs
    · cases hfs
    · cases hfs
    · cases hfs
    · cases hfs
    · cases hfs
      have e : fieldsZ cfg.L 0 [(0, 4), (1, 37), (2, 3), (3, 4)] = some [[.c (.sc (.bool false))], [.c (.sc (.int .u64 (0 : Int)))], [.c (.sc (.int .i64 (0 : Int)))], [.c (.sc (.bool false))]] := by kernel_rfl
      rw [e] at hbl
      cases hbl
      exact (by kernel_rfl : encPs (List.flatten [[.c (.sc (.bool false))], [.c (.sc (.int .u64 (0 : Int)))], [.c (.sc (.int .i64 (0 : Int)))], [.c (.sc (.bool false))]]) = encPs [.c (.sc (.bool false)), .c (.sc (.int .u64 (0 : Int))), .c (.sc (.int .i64 (0 : Int))), .c (.sc (.bool false))])
  · cases ht
def fin : Scr → List Adj
  | .adj l _ => l
  | _ => []
abbrev TY0 : Type := Int × Int × Int × Int × Bool
abbrev p2 {a0 a1 a2 a3 : Type} (x : a0 × a1 × a2 × a3) : a2 := x.2.2.1
abbrev p3 {a0 a1 a2 a3 a4 : Type} (x : a0 × a1 × a2 × a3 × a4) : a3 := x.2.2.2.1
abbrev z2 {a0 a1 a2 : Type} (x : a0 × a1 × a2) : a2 := x.2.2
abbrev z3 {a0 a1 a2 a3 : Type} (x : a0 × a1 × a2 × a3) : a3 := x.2.2.2
abbrev z4 {a0 a1 a2 a3 a4 : Type} (x : a0 × a1 × a2 × a3 × a4) : a4 := x.2.2.2.2
/-! the error's number -/
def num.f (a0 : Option Int) : Option Int := some (a0.getD 0)
def num.R (r : Int) : Tm := .v (.one (.sc (.int .i64 r)))
theorem num.fun_ {a0 : Option Int} {r : Int} (h : num.f a0 = some r) : Fun cfg 11 [.one (.err a0)] [] (num.R r) [] := by
  refine Fun.of_below (f := 11) (fn := Tryd.f11) Tryd.func11 rfl (by kernel_rfl) (r := .int .i64 r) (fun X => ⟨⟨rfl, rfl⟩, rfl⟩) fun X vs hE hvs hG => ?_
  obtain ⟨v, us, rfl, hv, rfl⟩ := hvs
  have hv : v = errV X.E a0 := hv.1
  have he : errV cfg.E a0 = YtfoejbiifolnnaaDoorN.errW a0 := by cases a0 <;> rfl
  rw [hv, hE, he]
  exact YtfoejbiifolnnaaDoorN.num.calls a0 r X.w (hG _ (List.mem_append_left _ (List.mem_cons_self ..))) h
/-! halter/soft.Add, by hand -/
def soft_Add.f (a0 : Int) (a1 : Int) : Option Int := YtfoejbiifolnnaaDoorF.soft_Add.f a0 a1
def soft_Add.R (r : Int) : Tm := .v (.one (.sc (.int .u64 r)))
theorem soft_Add.fun_ {a0 a1 r : Int} (h : soft_Add.f a0 a1 = some r) : Fun cfg 30 [.one (.sc (.int .u64 a0)), .one (.sc (.int .u64 a1))] [] (soft_Add.R r) [] := by
  refine Fun.of_below (f := 30) (fn := Tryd.f30) Tryd.func30 rfl (by kernel_rfl) (r := .int .u64 r) (fun X => ⟨⟨rfl, rfl⟩, rfl⟩) fun X vs hE hvs hG => ?_
  obtain ⟨v0, us0, rfl, hv0, v1, us1, rfl, hv1, rfl⟩ := hvs
  have hv0 : v0 = .int .u64 a0 := hv0.1.1
  have hv1 : v1 = .int .u64 a1 := hv1.1.1
  rw [hv0, hv1]
  exact YtfoejbiifolnnaaDoorF.soft_Add.calls a0 a1 r X.w h
/-! halter/soft.Sub, by hand -/
def soft_Sub.f (a0 : Int) (a1 : Int) : Option Int := YtfoejbiifolnnaaDoorF.soft_Sub.f a0 a1
def soft_Sub.R (r : Int) : Tm := .v (.one (.sc (.int .u64 r)))
theorem soft_Sub.fun_ {a0 a1 r : Int} (h : soft_Sub.f a0 a1 = some r) : Fun cfg 31 [.one (.sc (.int .u64 a0)), .one (.sc (.int .u64 a1))] [] (soft_Sub.R r) [] := by
  refine Fun.of_below (f := 31) (fn := Tryd.f31) Tryd.func31 rfl (by kernel_rfl) (r := .int .u64 r) (fun X => ⟨⟨rfl, rfl⟩, rfl⟩) fun X vs hE hvs hG => ?_
  obtain ⟨v0, us0, rfl, hv0, v1, us1, rfl, hv1, rfl⟩ := hvs
  have hv0 : v0 = .int .u64 a0 := hv0.1.1
  have hv1 : v1 = .int .u64 a1 := hv1.1.1
  rw [hv0, hv1]
  exact YtfoejbiifolnnaaDoorF.soft_Sub.calls a0 a1 r X.w h
/-! halter/soft.Mul, by hand -/
def soft_Mul.f (a0 : Int) (a1 : Int) : Option Int := YtfoejbiifolnnaaDoorF.soft_Mul.f a0 a1
def soft_Mul.R (r : Int) : Tm := .v (.one (.sc (.int .u64 r)))
theorem soft_Mul.fun_ {a0 a1 r : Int} (h : soft_Mul.f a0 a1 = some r) : Fun cfg 32 [.one (.sc (.int .u64 a0)), .one (.sc (.int .u64 a1))] [] (soft_Mul.R r) [] := by
  refine Fun.of_below (f := 32) (fn := Tryd.f32) Tryd.func32 rfl (by kernel_rfl) (r := .int .u64 r) (fun X => ⟨⟨rfl, rfl⟩, rfl⟩) fun X vs hE hvs hG => ?_
  obtain ⟨v0, us0, rfl, hv0, v1, us1, rfl, hv1, rfl⟩ := hvs
  have hv0 : v0 = .int .u64 a0 := hv0.1.1
  have hv1 : v1 = .int .u64 a1 := hv1.1.1
  rw [hv0, hv1]
  exact YtfoejbiifolnnaaDoorF.soft_Mul.calls a0 a1 r X.w h
/-! halter/soft.Div, by hand -/
def soft_Div.f (a0 : Int) (a1 : Int) : Option Int := YtfoejbiifolnnaaDoorF.soft_Div.f a0 a1
def soft_Div.R (r : Int) : Tm := .v (.one (.sc (.int .u64 r)))
theorem soft_Div.fun_ {a0 a1 r : Int} (h : soft_Div.f a0 a1 = some r) : Fun cfg 33 [.one (.sc (.int .u64 a0)), .one (.sc (.int .u64 a1))] [] (soft_Div.R r) [] := by
  refine Fun.of_below (f := 33) (fn := Tryd.f33) Tryd.func33 rfl (by kernel_rfl) (r := .int .u64 r) (fun X => ⟨⟨rfl, rfl⟩, rfl⟩) fun X vs hE hvs hG => ?_
  obtain ⟨v0, us0, rfl, hv0, v1, us1, rfl, hv1, rfl⟩ := hvs
  have hv0 : v0 = .int .u64 a0 := hv0.1.1
  have hv1 : v1 = .int .u64 a1 := hv1.1.1
  rw [hv0, hv1]
  exact YtfoejbiifolnnaaDoorF.soft_Div.calls a0 a1 r X.w h
/-! halter/soft.Cmp, by hand -/
def soft_Cmp.f (a0 : Int) (a1 : Int) : Option Int := YtfoejbiifolnnaaDoorF.soft_Cmp.f a0 a1
def soft_Cmp.R (r : Int) : Tm := .v (.one (.sc (.int .i64 r)))
theorem soft_Cmp.fun_ {a0 a1 r : Int} (h : soft_Cmp.f a0 a1 = some r) : Fun cfg 41 [.one (.sc (.int .u64 a0)), .one (.sc (.int .u64 a1))] [] (soft_Cmp.R r) [] := by
  refine Fun.of_below (f := 41) (fn := Tryd.f41) Tryd.func41 rfl (by kernel_rfl) (r := .int .i64 r) (fun X => ⟨⟨rfl, rfl⟩, rfl⟩) fun X vs hE hvs hG => ?_
  obtain ⟨v0, us0, rfl, hv0, v1, us1, rfl, hv1, rfl⟩ := hvs
  have hv0 : v0 = .int .u64 a0 := hv0.1.1
  have hv1 : v1 = .int .u64 a1 := hv1.1.1
  rw [hv0, hv1]
  exact YtfoejbiifolnnaaDoorF.soft_Cmp.calls a0 a1 r X.w h
/-! halter/soft.Sqrt, by hand -/
def soft_Sqrt.f (a0 : Int) : Option Int := YtfoejbiifolnnaaDoorF.soft_Sqrt.f a0
def soft_Sqrt.R (r : Int) : Tm := .v (.one (.sc (.int .u64 r)))
theorem soft_Sqrt.fun_ {a0 r : Int} (h : soft_Sqrt.f a0 = some r) : Fun cfg 34 [.one (.sc (.int .u64 a0))] [] (soft_Sqrt.R r) [] := by
  refine Fun.of_below (f := 34) (fn := Tryd.f34) Tryd.func34 rfl (by kernel_rfl) (r := .int .u64 r) (fun X => ⟨⟨rfl, rfl⟩, rfl⟩) fun X vs hE hvs hG => ?_
  obtain ⟨v0, us0, rfl, hv0, rfl⟩ := hvs
  have hv0 : v0 = .int .u64 a0 := hv0.1.1
  rw [hv0]
  exact YtfoejbiifolnnaaDoorF.soft_Sqrt.calls a0 r X.w h
/-! halter/alu.Float -/
def alu_Float.f (a0 : Int) (a1 : Int) (a2 : Int) : Option (Int × (Option Int)) :=
  if a0 = (33 : Int) then
    (soft_Add.f a1 a2).bind fun t2 =>
    some (t2, none)
  else
    if a0 = (34 : Int) then
      (soft_Sub.f a1 a2).bind fun t4 =>
      some (t4, none)
    else
      if a0 = (35 : Int) then
        (soft_Mul.f a1 a2).bind fun t6 =>
        some (t6, none)
      else
        if a0 = (36 : Int) then
          (soft_Div.f a1 a2).bind fun t8 =>
          some (t8, none)
        else
          if a0 = (37 : Int) then
            (soft_Sqrt.f a2).bind fun t10 =>
            some (t10, none)
          else
            some ((0 : Int), (some (22 : Int)))
def alu_Float.R (r : Int × (Option Int)) : Tm := .tup [.one (.sc (.int .u64 r.1)), .one (.err r.2)]
theorem alu_Float.fun_ {a0 : Int} {a1 : Int} {a2 : Int} {r : Int × (Option Int)} (h : alu_Float.f a0 a1 a2 = some r) : Fun cfg 13 [.one (.sc (.int .i64 a0)), .one (.sc (.int .u64 a1)), .one (.sc (.int .u64 a2))] [] (alu_Float.R r) [] := by
  unfold alu_Float.f at h
  refine fun_of_run cfg_ok (f := 13) (fn := Tryd.f13) Tryd.func13 rfl (by kernel_rfl) (rs := [.tmp 6, .tmp 7]) rfl (nt := 34) rfl (l := fin) (k := (.br (.call true [] (Int) soft_Add.R (fun t2 => (aE 2 .nil))) (.br (.call true [] (Int) soft_Sub.R (fun t4 => (aE 2 .nil))) (.br (.call true [] (Int) soft_Mul.R (fun t6 => (aE 2 .nil))) (.br (.call true [] (Int) soft_Div.R (fun t8 => (aE 2 .nil))) (.br (.call true [] (Int) soft_Sqrt.R (fun t10 => (aE 2 .nil))) (aE 4 .nil))))))) (to_goal (q := (True) ∧ (((a0 == (33 : Int)) = true → (∃ t2 : Int, (Fun cfg 30 [.one (.sc (.int .u64 a1)), .one (.sc (.int .u64 a2))] [] (soft_Add.R t2) [] ∧ True) ∧ (True ∧ ((True) ∧ (True) ∧ (.tup [.one (.sc (.int .u64 t2)), .one (.err none)] : Tm) = alu_Float.R r ∧ ([] : List Box) = [])))) ∧ ((a0 == (33 : Int)) = false → (True) ∧ (((a0 == (34 : Int)) = true → (∃ t4 : Int, (Fun cfg 31 [.one (.sc (.int .u64 a1)), .one (.sc (.int .u64 a2))] [] (soft_Sub.R t4) [] ∧ True) ∧ (True ∧ ((True) ∧ (True) ∧ (.tup [.one (.sc (.int .u64 t4)), .one (.err none)] : Tm) = alu_Float.R r ∧ ([] : List Box) = [])))) ∧ ((a0 == (34 : Int)) = false → (True) ∧ (((a0 == (35 : Int)) = true → (∃ t6 : Int, (Fun cfg 32 [.one (.sc (.int .u64 a1)), .one (.sc (.int .u64 a2))] [] (soft_Mul.R t6) [] ∧ True) ∧ (True ∧ ((True) ∧ (True) ∧ (.tup [.one (.sc (.int .u64 t6)), .one (.err none)] : Tm) = alu_Float.R r ∧ ([] : List Box) = [])))) ∧ ((a0 == (35 : Int)) = false → (True) ∧ (((a0 == (36 : Int)) = true → (∃ t8 : Int, (Fun cfg 33 [.one (.sc (.int .u64 a1)), .one (.sc (.int .u64 a2))] [] (soft_Div.R t8) [] ∧ True) ∧ (True ∧ ((True) ∧ (True) ∧ (.tup [.one (.sc (.int .u64 t8)), .one (.err none)] : Tm) = alu_Float.R r ∧ ([] : List Box) = [])))) ∧ ((a0 == (36 : Int)) = false → (True) ∧ (((a0 == (37 : Int)) = true → (∃ t10 : Int, (Fun cfg 34 [.one (.sc (.int .u64 a2))] [] (soft_Sqrt.R t10) [] ∧ True) ∧ (True ∧ ((True) ∧ (True) ∧ (.tup [.one (.sc (.int .u64 t10)), .one (.err none)] : Tm) = alu_Float.R r ∧ ([] : List Box) = [])))) ∧ ((a0 == (37 : Int)) = false → (True ∧ (True ∧ (True ∧ ((True) ∧ (True) ∧ (.tup [.one (.sc (.int .u64 (0 : Int))), .one (.err (some (22 : Int)))] : Tm) = alu_Float.R r ∧ ([] : List Box) = []))))))))))))))) (by kernel_rfl) ?_)
  refine ⟨trivial, ?_⟩
  refine ⟨fun b1 => ?_, fun b1 => ?_⟩
  · rw [if_pos (beq_t b1)] at h
    obtain ⟨t2, ht2, h⟩ := of_bind h
    refine ⟨t2, ⟨soft_Add.fun_ ht2, trivial⟩, ?_⟩
    refine ⟨trivial, ?_⟩
    obtain rfl := Option.some.inj h
    exact ⟨trivial, trivial, rfl, rfl⟩
  · rw [if_neg (beq_f b1)] at h
    refine ⟨trivial, ?_⟩
    refine ⟨fun b3 => ?_, fun b3 => ?_⟩
    · rw [if_pos (beq_t b3)] at h
      obtain ⟨t4, ht4, h⟩ := of_bind h
      refine ⟨t4, ⟨soft_Sub.fun_ ht4, trivial⟩, ?_⟩
      refine ⟨trivial, ?_⟩
      obtain rfl := Option.some.inj h
      exact ⟨trivial, trivial, rfl, rfl⟩
    · rw [if_neg (beq_f b3)] at h
      refine ⟨trivial, ?_⟩
      refine ⟨fun b5 => ?_, fun b5 => ?_⟩
      · rw [if_pos (beq_t b5)] at h
        obtain ⟨t6, ht6, h⟩ := of_bind h
        refine ⟨t6, ⟨soft_Mul.fun_ ht6, trivial⟩, ?_⟩
        refine ⟨trivial, ?_⟩
        obtain rfl := Option.some.inj h
        exact ⟨trivial, trivial, rfl, rfl⟩
      · rw [if_neg (beq_f b5)] at h
        refine ⟨trivial, ?_⟩
        refine ⟨fun b7 => ?_, fun b7 => ?_⟩
        · rw [if_pos (beq_t b7)] at h
          obtain ⟨t8, ht8, h⟩ := of_bind h
          refine ⟨t8, ⟨soft_Div.fun_ ht8, trivial⟩, ?_⟩
          refine ⟨trivial, ?_⟩
          obtain rfl := Option.some.inj h
          exact ⟨trivial, trivial, rfl, rfl⟩
        · rw [if_neg (beq_f b7)] at h
          refine ⟨trivial, ?_⟩
          refine ⟨fun b9 => ?_, fun b9 => ?_⟩
          · rw [if_pos (beq_t b9)] at h
            obtain ⟨t10, ht10, h⟩ := of_bind h
            refine ⟨t10, ⟨soft_Sqrt.fun_ ht10, trivial⟩, ?_⟩
            refine ⟨trivial, ?_⟩
            obtain rfl := Option.some.inj h
            exact ⟨trivial, trivial, rfl, rfl⟩
          · rw [if_neg (beq_f b9)] at h
            refine ⟨trivial, trivial, trivial, ?_⟩
            obtain rfl := Option.some.inj h
            exact ⟨trivial, trivial, rfl, rfl⟩
/-! halter/halterref02.Class -/
def halterref02_Class.f (a0 : Int) : Option Int :=
  if (Int.tmod (IntKind.wrap .u64 (Int.tdiv a0 (4503599627370496 : Int))) (2048 : Int)) = (2047 : Int) then
    if (Int.tmod a0 (4503599627370496 : Int)) = (0 : Int) then
      some (3 : Int)
    else
      some (4 : Int)
  else
    if (Int.tmod (IntKind.wrap .u64 (Int.tdiv a0 (4503599627370496 : Int))) (2048 : Int)) = (0 : Int) then
      if (Int.tmod a0 (4503599627370496 : Int)) = (0 : Int) then
        some (0 : Int)
      else
        some (1 : Int)
    else
      some (2 : Int)
def halterref02_Class.R (r : Int) : Tm := .v (.one (.sc (.int .i64 r)))
theorem halterref02_Class.fun_ {a0 : Int} {r : Int} (h : halterref02_Class.f a0 = some r) : Fun cfg 36 [.one (.sc (.int .u64 a0))] [] (halterref02_Class.R r) [] := by
  unfold halterref02_Class.f at h
  refine fun_of_run cfg_ok (f := 36) (fn := Tryd.f36) Tryd.func36 rfl (by kernel_rfl) (rs := [.tmp 2]) rfl (nt := 22) rfl (l := fin) (k := (.br (.br (aE 3 .nil) (aE 4 .nil)) (.br (oT 2 (.br (aE 3 .nil) (.one true (aE 3 .nil)))) (oF 4 (aE 4 .nil))))) (to_goal (q := ((4503599627370496 : Int) ≠ 0) ∧ ((2048 : Int) ≠ 0) ∧ ((4503599627370496 : Int) ≠ 0) ∧ (True) ∧ ((((Int.tmod (IntKind.wrap .u64 (Int.tdiv a0 (4503599627370496 : Int))) (2048 : Int)) == (2047 : Int)) = true → (True) ∧ ((((Int.tmod a0 (4503599627370496 : Int)) == (0 : Int)) = true → (True ∧ (True ∧ ((True) ∧ (True) ∧ (.v (.one (.sc (.int .i64 (3 : Int)))) : Tm) = halterref02_Class.R r ∧ ([] : List Box) = [])))) ∧ (((Int.tmod a0 (4503599627370496 : Int)) == (0 : Int)) = false → (True ∧ (True ∧ (True ∧ ((True) ∧ (True) ∧ (.v (.one (.sc (.int .i64 (4 : Int)))) : Tm) = halterref02_Class.R r ∧ ([] : List Box) = []))))))) ∧ (((Int.tmod (IntKind.wrap .u64 (Int.tdiv a0 (4503599627370496 : Int))) (2048 : Int)) == (2047 : Int)) = false → (True) ∧ ((((Int.tmod (IntKind.wrap .u64 (Int.tdiv a0 (4503599627370496 : Int))) (2048 : Int)) == (0 : Int)) = true → (((Int.tmod (IntKind.wrap .u64 (Int.tdiv a0 (4503599627370496 : Int))) (2048 : Int)) == (0 : Int)) = true ∧ (True) ∧ (((Int.tmod (IntKind.wrap .u64 (Int.tdiv a0 (4503599627370496 : Int))) (2048 : Int)) == (0 : Int)) = true ∧ ((((Int.tmod a0 (4503599627370496 : Int)) == (0 : Int)) = true → (True ∧ (True ∧ ((True) ∧ (True) ∧ (.v (.one (.sc (.int .i64 (0 : Int)))) : Tm) = halterref02_Class.R r ∧ ([] : List Box) = [])))) ∧ (((Int.tmod a0 (4503599627370496 : Int)) == (0 : Int)) = false → (True) ∧ (((Int.tmod (IntKind.wrap .u64 (Int.tdiv a0 (4503599627370496 : Int))) (2048 : Int)) == (0 : Int)) = true ∧ (True ∧ (True ∧ ((True) ∧ (True) ∧ (.v (.one (.sc (.int .i64 (1 : Int)))) : Tm) = halterref02_Class.R r ∧ ([] : List Box) = []))))))))) ∧ (((Int.tmod (IntKind.wrap .u64 (Int.tdiv a0 (4503599627370496 : Int))) (2048 : Int)) == (0 : Int)) = false → (((Int.tmod (IntKind.wrap .u64 (Int.tdiv a0 (4503599627370496 : Int))) (2048 : Int)) == (0 : Int)) = false ∧ (((Int.tmod (IntKind.wrap .u64 (Int.tdiv a0 (4503599627370496 : Int))) (2048 : Int)) == (0 : Int)) = false ∧ (false = false ∧ (True) ∧ (((Int.tmod (IntKind.wrap .u64 (Int.tdiv a0 (4503599627370496 : Int))) (2048 : Int)) == (0 : Int)) = false ∧ (True ∧ (True ∧ (True ∧ ((True) ∧ (True) ∧ (.v (.one (.sc (.int .i64 (2 : Int)))) : Tm) = halterref02_Class.R r ∧ ([] : List Box) = []))))))))))))) (by kernel_rfl) ?_)
  refine ⟨(by decide), ?_⟩
  refine ⟨(by decide), ?_⟩
  refine ⟨(by decide), ?_⟩
  refine ⟨trivial, ?_⟩
  refine ⟨fun b1 => ?_, fun b1 => ?_⟩
  · rw [if_pos (beq_t b1)] at h
    refine ⟨trivial, ?_⟩
    refine ⟨fun b2 => ?_, fun b2 => ?_⟩
    · rw [if_pos (beq_t b2)] at h
      refine ⟨trivial, trivial, ?_⟩
      obtain rfl := Option.some.inj h
      exact ⟨trivial, trivial, rfl, rfl⟩
    · rw [if_neg (beq_f b2)] at h
      refine ⟨trivial, trivial, trivial, ?_⟩
      obtain rfl := Option.some.inj h
      exact ⟨trivial, trivial, rfl, rfl⟩
  · rw [if_neg (beq_f b1)] at h
    refine ⟨trivial, ?_⟩
    refine ⟨fun b3 => ?_, fun b3 => ?_⟩
    · rw [if_pos (beq_t b3)] at h
      refine ⟨b3, ?_⟩
      refine ⟨trivial, ?_⟩
      refine ⟨b3, ?_⟩
      refine ⟨fun b4 => ?_, fun b4 => ?_⟩
      · rw [if_pos (beq_t b4)] at h
        refine ⟨trivial, trivial, ?_⟩
        obtain rfl := Option.some.inj h
        exact ⟨trivial, trivial, rfl, rfl⟩
      · rw [if_neg (beq_f b4)] at h
        refine ⟨trivial, ?_⟩
        refine ⟨b3, ?_⟩
        refine ⟨trivial, trivial, ?_⟩
        obtain rfl := Option.some.inj h
        exact ⟨trivial, trivial, rfl, rfl⟩
    · rw [if_neg (beq_f b3)] at h
      refine ⟨b3, ?_⟩
      refine ⟨b3, ?_⟩
      refine ⟨rfl, trivial, ?_⟩
      refine ⟨b3, ?_⟩
      refine ⟨trivial, trivial, trivial, ?_⟩
      obtain rfl := Option.some.inj h
      exact ⟨trivial, trivial, rfl, rfl⟩
/-! halter/halterref02.none -/
def halterref02_none.f (a0 : Int) (a1 : Int) : Option Bool :=
  (halterref02_Class.f a0).bind fun t1 =>
  if t1 = (4 : Int) then
    some true
  else
    (halterref02_Class.f a1).bind fun t3 =>
    some (t3 == (4 : Int))
def halterref02_none.R (r : Bool) : Tm := .v (.one (.sc (.bool r)))
theorem halterref02_none.fun_ {a0 : Int} {a1 : Int} {r : Bool} (h : halterref02_none.f a0 a1 = some r) : Fun cfg 59 [.one (.sc (.int .u64 a0)), .one (.sc (.int .u64 a1))] [] (halterref02_none.R r) [] := by
  unfold halterref02_none.f at h
  refine fun_of_run cfg_ok (f := 59) (fn := Tryd.f59) Tryd.func59 rfl (by kernel_rfl) (rs := [.tmp 4]) rfl (nt := 13) rfl (l := fin) (k := (.call true [] (Int) halterref02_Class.R (fun t1 => (.br (oT 3 (aE 2 .nil)) (.one false (.call true [] (Int) halterref02_Class.R (fun t3 => (oF 2 (aE 2 .nil))))))))) (to_goal (q := (∃ t1 : Int, (Fun cfg 36 [.one (.sc (.int .u64 a0))] [] (halterref02_Class.R t1) [] ∧ True) ∧ (True) ∧ (((t1 == (4 : Int)) = false → ((t1 == (4 : Int)) = false ∧ (∃ t3 : Int, (Fun cfg 36 [.one (.sc (.int .u64 a1))] [] (halterref02_Class.R t3) [] ∧ True) ∧ ((t1 == (4 : Int)) = false ∧ (True) ∧ ((t1 == (4 : Int)) = false ∧ (True ∧ ((True) ∧ (True) ∧ (.v (.one (.sc (.bool (t3 == (4 : Int))))) : Tm) = halterref02_none.R r ∧ ([] : List Box) = []))))))) ∧ ((t1 == (4 : Int)) = true → ((t1 == (4 : Int)) = true ∧ ((t1 == (4 : Int)) = true ∧ ((t1 == (4 : Int)) = true ∧ (True ∧ ((True) ∧ (True) ∧ (.v (.one (.sc (.bool true))) : Tm) = halterref02_none.R r ∧ ([] : List Box) = []))))))))) (by kernel_rfl) ?_)
  obtain ⟨t1, ht1, h⟩ := of_bind h
  refine ⟨t1, ⟨halterref02_Class.fun_ ht1, trivial⟩, ?_⟩
  refine ⟨trivial, ?_⟩
  refine ⟨fun b2 => ?_, fun b2 => ?_⟩
  · rw [if_neg (beq_f b2)] at h
    refine ⟨b2, ?_⟩
    obtain ⟨t3, ht3, h⟩ := of_bind h
    refine ⟨t3, ⟨halterref02_Class.fun_ ht3, trivial⟩, ?_⟩
    refine ⟨b2, ?_⟩
    refine ⟨trivial, ?_⟩
    refine ⟨b2, ?_⟩
    refine ⟨trivial, ?_⟩
    obtain rfl := Option.some.inj h
    exact ⟨trivial, trivial, rfl, rfl⟩
  · rw [if_pos (beq_t b2)] at h
    refine ⟨b2, ?_⟩
    refine ⟨b2, ?_⟩
    refine ⟨b2, ?_⟩
    refine ⟨trivial, ?_⟩
    obtain rfl := Option.some.inj h
    exact ⟨trivial, trivial, rfl, rfl⟩
/-! halter/halterref02.Neg -/
def halterref02_Neg.f (a0 : Int) : Option Bool :=
  some (decide (a0 ≥ (9223372036854775808 : Int)))
def halterref02_Neg.R (r : Bool) : Tm := .v (.one (.sc (.bool r)))
theorem halterref02_Neg.fun_ {a0 : Int} {r : Bool} (h : halterref02_Neg.f a0 = some r) : Fun cfg 60 [.one (.sc (.int .u64 a0))] [] (halterref02_Neg.R r) [] := by
  unfold halterref02_Neg.f at h
  refine fun_of_run cfg_ok (f := 60) (fn := Tryd.f60) Tryd.func60 rfl (by kernel_rfl) (rs := [.tmp 2]) rfl (nt := 5) rfl (l := fin) (k := (aE 4 .nil)) (to_goal (q := (True ∧ (True ∧ (True) ∧ (True ∧ ((True) ∧ (True) ∧ (.v (.one (.sc (.bool (decide (a0 ≥ (9223372036854775808 : Int)))))) : Tm) = halterref02_Neg.R r ∧ ([] : List Box) = []))))) (by kernel_rfl) ?_)
  refine ⟨trivial, trivial, trivial, trivial, ?_⟩
  obtain rfl := Option.some.inj h
  exact ⟨trivial, trivial, rfl, rfl⟩
/-! halter/halterref02.Open -/
def halterref02_Open.f (a0 : Int) : Option (Bool × Int × Int × Bool) :=
  if (IntKind.wrap .i64 ((Int.tmod (IntKind.wrap .u64 (Int.tdiv a0 (4503599627370496 : Int))) (2048 : Int)))) = (0 : Int) then
    (halterref02_Neg.f a0).bind fun t2 =>
    some (t2, (Int.tmod a0 (4503599627370496 : Int)), (-1074 : Int), false)
  else
    (halterref02_Neg.f a0).bind fun t3 =>
    some (t3, (IntKind.wrap .u64 ((Int.tmod a0 (4503599627370496 : Int)) + (4503599627370496 : Int))), (IntKind.wrap .i64 ((IntKind.wrap .i64 ((Int.tmod (IntKind.wrap .u64 (Int.tdiv a0 (4503599627370496 : Int))) (2048 : Int)))) - (1075 : Int))), false)
def halterref02_Open.R (r : Bool × Int × Int × Bool) : Tm := .v (.agg [.c (.sc (.bool r.1)), .c (.sc (.int .u64 r.2.1)), .c (.sc (.int .i64 r.2.2.1)), .c (.sc (.bool r.2.2.2))])
theorem halterref02_Open.fun_ {a0 : Int} {r : Bool × Int × Int × Bool} (h : halterref02_Open.f a0 = some r) : Fun cfg 61 [.one (.sc (.int .u64 a0))] [] (halterref02_Open.R r) [] := by
  unfold halterref02_Open.f at h
  refine fun_of_run cfg_ok (f := 61) (fn := Tryd.f61) Tryd.func61 rfl (by kernel_rfl) (rs := [.cell 2 93]) rfl (nt := 24) rfl (l := fin) (k := (.br (.call true [] (Bool) halterref02_Neg.R (fun t2 => (.adj [] (.adj [.drop 0] .nil)))) (.call true [] (Bool) halterref02_Neg.R (fun t3 => (.adj [] (.adj [.drop 0] .nil)))))) (to_goal (q := ((4503599627370496 : Int) ≠ 0) ∧ ((2048 : Int) ≠ 0) ∧ (True) ∧ ((4503599627370496 : Int) ≠ 0) ∧ (True) ∧ ((((IntKind.wrap .i64 ((Int.tmod (IntKind.wrap .u64 (Int.tdiv a0 (4503599627370496 : Int))) (2048 : Int)))) == (0 : Int)) = true → (∃ t2 : Bool, (Fun cfg 60 [.one (.sc (.int .u64 a0))] [] (halterref02_Neg.R t2) [] ∧ True) ∧ (True) ∧ (True ∧ (((True) ∧ True) ∧ ((True) ∧ True) ∧ (.v (.agg [.c (.sc (.bool t2)), .c (.sc (.int .u64 (Int.tmod a0 (4503599627370496 : Int)))), .c (.sc (.int .i64 (-1074 : Int))), .c (.sc (.bool false))]) : Tm) = halterref02_Open.R r ∧ ([] : List Box) = [])))) ∧ (((IntKind.wrap .i64 ((Int.tmod (IntKind.wrap .u64 (Int.tdiv a0 (4503599627370496 : Int))) (2048 : Int)))) == (0 : Int)) = false → (∃ t3 : Bool, (Fun cfg 60 [.one (.sc (.int .u64 a0))] [] (halterref02_Neg.R t3) [] ∧ True) ∧ (True) ∧ (True) ∧ (True) ∧ (True ∧ (((True) ∧ True) ∧ ((True) ∧ True) ∧ (.v (.agg [.c (.sc (.bool t3)), .c (.sc (.int .u64 (IntKind.wrap .u64 ((Int.tmod a0 (4503599627370496 : Int)) + (4503599627370496 : Int))))), .c (.sc (.int .i64 (IntKind.wrap .i64 ((IntKind.wrap .i64 ((Int.tmod (IntKind.wrap .u64 (Int.tdiv a0 (4503599627370496 : Int))) (2048 : Int)))) - (1075 : Int))))), .c (.sc (.bool false))]) : Tm) = halterref02_Open.R r ∧ ([] : List Box) = [])))))) (by kernel_rfl) ?_)
  refine ⟨(by decide), ?_⟩
  refine ⟨(by decide), ?_⟩
  refine ⟨trivial, ?_⟩
  refine ⟨(by decide), ?_⟩
  refine ⟨trivial, ?_⟩
  refine ⟨fun b1 => ?_, fun b1 => ?_⟩
  · rw [if_pos (beq_t b1)] at h
    obtain ⟨t2, ht2, h⟩ := of_bind h
    refine ⟨t2, ⟨halterref02_Neg.fun_ ht2, trivial⟩, ?_⟩
    refine ⟨trivial, trivial, ?_⟩
    obtain rfl := Option.some.inj h
    exact ⟨⟨trivial, trivial⟩, ⟨trivial, trivial⟩, rfl, rfl⟩
  · rw [if_neg (beq_f b1)] at h
    obtain ⟨t3, ht3, h⟩ := of_bind h
    refine ⟨t3, ⟨halterref02_Neg.fun_ ht3, trivial⟩, ?_⟩
    refine ⟨trivial, trivial, trivial, trivial, ?_⟩
    obtain rfl := Option.some.inj h
    exact ⟨⟨trivial, trivial⟩, ⟨trivial, trivial⟩, rfl, rfl⟩
/-! halter/halterref02.signed -/
def halterref02_signed.f (a0 : Bool) (a1 : Int) : Option Int :=
  if a0 = true then
    some (IntKind.wrap .u64 (a1 + (9223372036854775808 : Int)))
  else
    some a1
def halterref02_signed.R (r : Int) : Tm := .v (.one (.sc (.int .u64 r)))
theorem halterref02_signed.fun_ {a0 : Bool} {a1 : Int} {r : Int} (h : halterref02_signed.f a0 a1 = some r) : Fun cfg 62 [.one (.sc (.bool a0)), .one (.sc (.int .u64 a1))] [] (halterref02_signed.R r) [] := by
  unfold halterref02_signed.f at h
  refine fun_of_run cfg_ok (f := 62) (fn := Tryd.f62) Tryd.func62 rfl (by kernel_rfl) (rs := [.tmp 4]) rfl (nt := 9) rfl (l := fin) (k := (.br (aE 3 .nil) (aE 4 .nil))) (to_goal (q := ((a0 = true → (True ∧ (True) ∧ (True ∧ ((True) ∧ (True) ∧ (.v (.one (.sc (.int .u64 (IntKind.wrap .u64 (a1 + (9223372036854775808 : Int)))))) : Tm) = halterref02_signed.R r ∧ ([] : List Box) = [])))) ∧ (a0 = false → (True ∧ (True ∧ (True ∧ ((True) ∧ (True) ∧ (.v (.one (.sc (.int .u64 a1))) : Tm) = halterref02_signed.R r ∧ ([] : List Box) = []))))))) (by kernel_rfl) ?_)
  refine ⟨fun b1 => ?_, fun b1 => ?_⟩
  · rw [if_pos b1] at h
    refine ⟨trivial, trivial, trivial, ?_⟩
    obtain rfl := Option.some.inj h
    exact ⟨trivial, trivial, rfl, rfl⟩
  · rw [if_neg (ff b1)] at h
    refine ⟨trivial, trivial, trivial, ?_⟩
    obtain rfl := Option.some.inj h
    exact ⟨trivial, trivial, rfl, rfl⟩
/-! halter/halterref02.Round -/
def halterref02_Round.l0 (a0 : Bool) (a3 : Bool) : Nat → Int → Int → Bool → Bool → Option (Int × Int × Bool × Bool)
  | 0, _, _, _, _ => none
  | n + 1, x11, x12, x13, x14 =>
    if x11 ≥ (9007199254740992 : Int) then
      if x14 = true then
        halterref02_Round.l0 a0 a3 n (IntKind.wrap .u64 (Int.tdiv x11 (2 : Int))) (IntKind.wrap .i64 (x12 + (1 : Int))) ((Int.tmod x11 (2 : Int)) == (1 : Int)) true
      else
        halterref02_Round.l0 a0 a3 n (IntKind.wrap .u64 (Int.tdiv x11 (2 : Int))) (IntKind.wrap .i64 (x12 + (1 : Int))) ((Int.tmod x11 (2 : Int)) == (1 : Int)) x13
    else
      if x12 < (-1074 : Int) then
        if x11 > (0 : Int) then
          if x14 = true then
            halterref02_Round.l0 a0 a3 n (IntKind.wrap .u64 (Int.tdiv x11 (2 : Int))) (IntKind.wrap .i64 (x12 + (1 : Int))) ((Int.tmod x11 (2 : Int)) == (1 : Int)) true
          else
            halterref02_Round.l0 a0 a3 n (IntKind.wrap .u64 (Int.tdiv x11 (2 : Int))) (IntKind.wrap .i64 (x12 + (1 : Int))) ((Int.tmod x11 (2 : Int)) == (1 : Int)) x13
        else
          if x13 = true then
            if x14 = true then
              halterref02_Round.l0 a0 a3 n (IntKind.wrap .u64 (Int.tdiv x11 (2 : Int))) (IntKind.wrap .i64 (x12 + (1 : Int))) ((Int.tmod x11 (2 : Int)) == (1 : Int)) true
            else
              halterref02_Round.l0 a0 a3 n (IntKind.wrap .u64 (Int.tdiv x11 (2 : Int))) (IntKind.wrap .i64 (x12 + (1 : Int))) ((Int.tmod x11 (2 : Int)) == (1 : Int)) x13
          else
            if x14 = true then
              halterref02_Round.l0 a0 a3 n (IntKind.wrap .u64 (Int.tdiv x11 (2 : Int))) (IntKind.wrap .i64 (x12 + (1 : Int))) ((Int.tmod x11 (2 : Int)) == (1 : Int)) true
            else
              some (x11, x12, x13, x14)
      else
        some (x11, x12, x13, x14)
def halterref02_Round.l0_S (a0 : Bool) (a3 : Bool) (x11 : Int) (x12 : Int) (x13 : Bool) (x14 : Bool) : St := ⟨[.any, .v (.one (.ptr 0 ⟨0, 0, 0, 0⟩)), .any, .v (.one (.sc (.bool x13))), .v (.one (.sc (.bool x14))), .any, .any, .any, .any, .any, .any, .any, .any, .any, .any, .any, .any, .any, .any, .any, .any, .any, .any, .any, .any, .any, .any, .any, .any, .any, .any, .any, .any, .any, .any, .any, .any, .any, .any, .any, .any, .any, .any, .any, .any, .any, .any, .any, .any, .any, .any, .any, .any, .any, .any, .any, .any, .any, .any, .any, .any, .any, .any, .any, .any, .any, .any, .any, .any, .any, .any, .any, .any, .any, .any, .any, .any, .any, .any, .any, .any, .any, .any, .any, .any, .any, .any, .any, .any, .any, .any, .any, .any, .any, .any, .any, .any, .any, .any, .any, .any, .any, .any, .any, .any, .any, .any, .any, .any, .any, .any, .any, .any, .any, .any, .any, .any, .any, .any, .any, .any, .any, .any, .any, .any, .any, .any, .any, .any], [.ex false [.c (.sc (.bool a0)), .c (.sc (.int .u64 x11)), .c (.sc (.int .i64 x12)), .c (.sc (.bool a3))] 93], 0⟩
def halterref02_Round.l0_Q (a0 : Bool) (a3 : Bool) (t : Int × Int × Bool × Bool) : Exit → St → Prop := fun e s => e = (.exit 0) ∧ s = ⟨[.any, .v (.one (.ptr 0 ⟨0, 0, 0, 0⟩)), .any, .v (.one (.sc (.bool t.2.2.1))), .v (.one (.sc (.bool t.2.2.2))), .any, .any, .any, .any, .any, .any, .any, .any, .any, .any, .any, .any, .any, .any, .any, .any, .any, .any, .any, .any, .any, .any, .any, .any, .any, .any, .any, .any, .any, .any, .any, .any, .any, .any, .any, .any, .any, .any, .any, .any, .any, .any, .any, .any, .any, .any, .any, .any, .any, .any, .any, .any, .any, .any, .any, .any, .any, .any, .any, .any, .any, .any, .any, .any, .any, .any, .any, .any, .any, .any, .any, .any, .any, .any, .any, .any, .any, .any, .any, .any, .any, .any, .any, .any, .any, .any, .any, .any, .any, .any, .any, .any, .any, .any, .any, .any, .any, .any, .any, .any, .any, .any, .any, .any, .any, .any, .any, .any, .any, .any, .any, .any, .any, .any, .any, .any, .any, .any, .any, .any, .any, .any, .any, .any], [.ex false [.c (.sc (.bool a0)), .c (.sc (.int .u64 t.1)), .c (.sc (.int .i64 t.2.1)), .c (.sc (.bool a3))] 93], 0⟩
theorem halterref02_Round.l0_ok (a0 : Bool) (a3 : Bool) : ∀ (n : Nat) (x11 : Int) (x12 : Int) (x13 : Bool) (x14 : Bool) (r : Int × Int × Bool × Bool), halterref02_Round.l0 a0 a3 n x11 x12 x13 x14 = some r → TripN cfg (cpath (Tryd.f63.body.getD .skip) [1, 1, 0, 0, 0]) n (halterref02_Round.l0_S a0 a3 x11 x12 x13 x14) (halterref02_Round.l0_Q a0 a3 r) := by
  intro n
  induction n with
  | zero => intro x11 x12 x13 x14 r h; cases h
  | succ n ih =>
    intro x11 x12 x13 x14 r h
    rw [halterref02_Round.l0] at h
    refine TripN.of_run cfg_ok (k := (.br (oT 6 (.br (.one true (aE 3 (.adj [.keep [1, 3, 4], .drop 1] .nil))) (.one false (aE 3 (.adj [.keep [1, 3, 4], .drop 1] .nil))))) (oF 3 (.br (oT 3 (.br (oT 6 (.one false (.one true (.one false (.one true (.br (.one true (aE 3 (.adj [.keep [1, 3, 4], .drop 1] .nil))) (.one false (aE 3 (.adj [.keep [1, 3, 4], .drop 1] .nil))))))))) (.one true (.one false (.one true (.br (oT 2 (.one false (.one true (.one false (.one true (.br (.one true (aE 3 (.adj [.keep [1, 3, 4], .drop 1] .nil))) (.one false (aE 3 (.adj [.keep [1, 3, 4], .drop 1] .nil))))))))) (.one true (oF 2 (.one true (.one false (.br (oT 2 (aE 3 (.adj [.keep [1, 3, 4], .drop 1] .nil))) (.adj [.keep [1, 3, 4], .drop 1] .nil)))))))))))) (oF 10 (.adj [.keep [1, 3, 4], .drop 1] .nil)))))) (to_goal (q := (True) ∧ (True) ∧ (((decide (x11 ≥ (9007199254740992 : Int))) = false → ((decide (x11 ≥ (9007199254740992 : Int))) = false ∧ (True) ∧ ((decide (x11 ≥ (9007199254740992 : Int))) = false ∧ (True) ∧ ((decide (x11 ≥ (9007199254740992 : Int))) = false ∧ (((decide (x12 < (-1074 : Int))) = true → ((decide (x12 < (-1074 : Int))) = true ∧ (True) ∧ ((decide (x12 < (-1074 : Int))) = true ∧ (True) ∧ ((decide (x12 < (-1074 : Int))) = true ∧ (((decide (x11 > (0 : Int))) = false → ((decide (x12 < (-1074 : Int))) = true ∧ ((decide (x11 > (0 : Int))) = false ∧ ((decide (x12 < (-1074 : Int))) = true ∧ ((x13 = false → ((decide (x12 < (-1074 : Int))) = true ∧ (x13 = false ∧ ((decide (x11 ≥ (9007199254740992 : Int))) = false ∧ ((decide (x12 < (-1074 : Int))) = true ∧ ((decide (x11 ≥ (9007199254740992 : Int))) = false ∧ ((x14 = true → (x14 = true ∧ (x14 = true ∧ (True ∧ (True) ∧ ((2 : Int) ≠ 0) ∧ (True) ∧ (True ∧ (True) ∧ ((2 : Int) ≠ 0) ∧ (True) ∧ (True ∧ (True) ∧ (True) ∧ (True) ∧ (((True) ∧ (True) ∧ True) ∧ TripN cfg (cpath (Tryd.f63.body.getD .skip) [1, 1, 0, 0, 0]) n (halterref02_Round.l0_S a0 a3 (IntKind.wrap .u64 (Int.tdiv x11 (2 : Int))) (IntKind.wrap .i64 (x12 + (1 : Int))) ((Int.tmod x11 (2 : Int)) == (1 : Int)) true) (halterref02_Round.l0_Q a0 a3 r)))))))) ∧ (x14 = false → (((True) ∧ (True) ∧ True) ∧ halterref02_Round.l0_Q a0 a3 r (.exit 0) ⟨[.any, .v (.one (.ptr 0 ⟨0, 0, 0, 0⟩)), .any, .v (.one (.sc (.bool x13))), .v (.one (.sc (.bool x14))), .any, .any, .any, .any, .any, .any, .any, .any, .any, .any, .any, .any, .any, .any, .any, .any, .any, .any, .any, .any, .any, .any, .any, .any, .any, .any, .any, .any, .any, .any, .any, .any, .any, .any, .any, .any, .any, .any, .any, .any, .any, .any, .any, .any, .any, .any, .any, .any, .any, .any, .any, .any, .any, .any, .any, .any, .any, .any, .any, .any, .any, .any, .any, .any, .any, .any, .any, .any, .any, .any, .any, .any, .any, .any, .any, .any, .any, .any, .any, .any, .any, .any, .any, .any, .any, .any, .any, .any, .any, .any, .any, .any, .any, .any, .any, .any, .any, .any, .any, .any, .any, .any, .any, .any, .any, .any, .any, .any, .any, .any, .any, .any, .any, .any, .any, .any, .any, .any, .any, .any, .any, .any, .any, .any], [.ex false [.c (.sc (.bool a0)), .c (.sc (.int .u64 x11)), .c (.sc (.int .i64 x12)), .c (.sc (.bool a3))] 93], 0⟩))))))))) ∧ (x13 = true → ((decide (x12 < (-1074 : Int))) = true ∧ (x13 = true ∧ ((decide (x11 ≥ (9007199254740992 : Int))) = false ∧ ((decide (x12 < (-1074 : Int))) = true ∧ ((decide (x11 ≥ (9007199254740992 : Int))) = false ∧ (true = true ∧ ((x14 = false → (x14 = false ∧ (True ∧ (True) ∧ ((2 : Int) ≠ 0) ∧ (True) ∧ (True ∧ (True) ∧ ((2 : Int) ≠ 0) ∧ (True) ∧ (True ∧ (True) ∧ (True) ∧ (True) ∧ (((True) ∧ (True) ∧ True) ∧ TripN cfg (cpath (Tryd.f63.body.getD .skip) [1, 1, 0, 0, 0]) n (halterref02_Round.l0_S a0 a3 (IntKind.wrap .u64 (Int.tdiv x11 (2 : Int))) (IntKind.wrap .i64 (x12 + (1 : Int))) ((Int.tmod x11 (2 : Int)) == (1 : Int)) x13) (halterref02_Round.l0_Q a0 a3 r))))))) ∧ (x14 = true → (x14 = true ∧ (True ∧ (True) ∧ ((2 : Int) ≠ 0) ∧ (True) ∧ (True ∧ (True) ∧ ((2 : Int) ≠ 0) ∧ (True) ∧ (True ∧ (True) ∧ (True) ∧ (True) ∧ (((True) ∧ (True) ∧ True) ∧ TripN cfg (cpath (Tryd.f63.body.getD .skip) [1, 1, 0, 0, 0]) n (halterref02_Round.l0_S a0 a3 (IntKind.wrap .u64 (Int.tdiv x11 (2 : Int))) (IntKind.wrap .i64 (x12 + (1 : Int))) ((Int.tmod x11 (2 : Int)) == (1 : Int)) true) (halterref02_Round.l0_Q a0 a3 r)))))))))))))))))))) ∧ ((decide (x11 > (0 : Int))) = true → ((decide (x12 < (-1074 : Int))) = true ∧ ((decide (x11 > (0 : Int))) = true ∧ ((decide (x12 < (-1074 : Int))) = true ∧ (true = true ∧ ((decide (x12 < (-1074 : Int))) = true ∧ (true = true ∧ ((decide (x11 ≥ (9007199254740992 : Int))) = false ∧ ((decide (x12 < (-1074 : Int))) = true ∧ ((decide (x11 ≥ (9007199254740992 : Int))) = false ∧ (true = true ∧ ((x14 = false → (x14 = false ∧ (True ∧ (True) ∧ ((2 : Int) ≠ 0) ∧ (True) ∧ (True ∧ (True) ∧ ((2 : Int) ≠ 0) ∧ (True) ∧ (True ∧ (True) ∧ (True) ∧ (True) ∧ (((True) ∧ (True) ∧ True) ∧ TripN cfg (cpath (Tryd.f63.body.getD .skip) [1, 1, 0, 0, 0]) n (halterref02_Round.l0_S a0 a3 (IntKind.wrap .u64 (Int.tdiv x11 (2 : Int))) (IntKind.wrap .i64 (x12 + (1 : Int))) ((Int.tmod x11 (2 : Int)) == (1 : Int)) x13) (halterref02_Round.l0_Q a0 a3 r))))))) ∧ (x14 = true → (x14 = true ∧ (True ∧ (True) ∧ ((2 : Int) ≠ 0) ∧ (True) ∧ (True ∧ (True) ∧ ((2 : Int) ≠ 0) ∧ (True) ∧ (True ∧ (True) ∧ (True) ∧ (True) ∧ (((True) ∧ (True) ∧ True) ∧ TripN cfg (cpath (Tryd.f63.body.getD .skip) [1, 1, 0, 0, 0]) n (halterref02_Round.l0_S a0 a3 (IntKind.wrap .u64 (Int.tdiv x11 (2 : Int))) (IntKind.wrap .i64 (x12 + (1 : Int))) ((Int.tmod x11 (2 : Int)) == (1 : Int)) true) (halterref02_Round.l0_Q a0 a3 r)))))))))))))))))))))))) ∧ ((decide (x12 < (-1074 : Int))) = false → ((decide (x12 < (-1074 : Int))) = false ∧ ((decide (x12 < (-1074 : Int))) = false ∧ ((decide (x12 < (-1074 : Int))) = false ∧ ((decide (x12 < (-1074 : Int))) = false ∧ ((decide (x12 < (-1074 : Int))) = false ∧ ((decide (x12 < (-1074 : Int))) = false ∧ ((decide (x11 ≥ (9007199254740992 : Int))) = false ∧ ((decide (x12 < (-1074 : Int))) = false ∧ ((decide (x11 ≥ (9007199254740992 : Int))) = false ∧ (false = false ∧ (((True) ∧ (True) ∧ True) ∧ halterref02_Round.l0_Q a0 a3 r (.exit 0) ⟨[.any, .v (.one (.ptr 0 ⟨0, 0, 0, 0⟩)), .any, .v (.one (.sc (.bool x13))), .v (.one (.sc (.bool x14))), .any, .any, .any, .any, .any, .any, .any, .any, .any, .any, .any, .any, .any, .any, .any, .any, .any, .any, .any, .any, .any, .any, .any, .any, .any, .any, .any, .any, .any, .any, .any, .any, .any, .any, .any, .any, .any, .any, .any, .any, .any, .any, .any, .any, .any, .any, .any, .any, .any, .any, .any, .any, .any, .any, .any, .any, .any, .any, .any, .any, .any, .any, .any, .any, .any, .any, .any, .any, .any, .any, .any, .any, .any, .any, .any, .any, .any, .any, .any, .any, .any, .any, .any, .any, .any, .any, .any, .any, .any, .any, .any, .any, .any, .any, .any, .any, .any, .any, .any, .any, .any, .any, .any, .any, .any, .any, .any, .any, .any, .any, .any, .any, .any, .any, .any, .any, .any, .any, .any, .any, .any, .any, .any, .any], [.ex false [.c (.sc (.bool a0)), .c (.sc (.int .u64 x11)), .c (.sc (.int .i64 x12)), .c (.sc (.bool a3))] 93], 0⟩))))))))))))))))) ∧ ((decide (x11 ≥ (9007199254740992 : Int))) = true → ((decide (x11 ≥ (9007199254740992 : Int))) = true ∧ ((decide (x11 ≥ (9007199254740992 : Int))) = true ∧ ((decide (x11 ≥ (9007199254740992 : Int))) = true ∧ ((decide (x11 ≥ (9007199254740992 : Int))) = true ∧ ((decide (x11 ≥ (9007199254740992 : Int))) = true ∧ (true = true ∧ ((x14 = false → (x14 = false ∧ (True ∧ (True) ∧ ((2 : Int) ≠ 0) ∧ (True) ∧ (True ∧ (True) ∧ ((2 : Int) ≠ 0) ∧ (True) ∧ (True ∧ (True) ∧ (True) ∧ (True) ∧ (((True) ∧ (True) ∧ True) ∧ TripN cfg (cpath (Tryd.f63.body.getD .skip) [1, 1, 0, 0, 0]) n (halterref02_Round.l0_S a0 a3 (IntKind.wrap .u64 (Int.tdiv x11 (2 : Int))) (IntKind.wrap .i64 (x12 + (1 : Int))) ((Int.tmod x11 (2 : Int)) == (1 : Int)) x13) (halterref02_Round.l0_Q a0 a3 r))))))) ∧ (x14 = true → (x14 = true ∧ (True ∧ (True) ∧ ((2 : Int) ≠ 0) ∧ (True) ∧ (True ∧ (True) ∧ ((2 : Int) ≠ 0) ∧ (True) ∧ (True ∧ (True) ∧ (True) ∧ (True) ∧ (((True) ∧ (True) ∧ True) ∧ TripN cfg (cpath (Tryd.f63.body.getD .skip) [1, 1, 0, 0, 0]) n (halterref02_Round.l0_S a0 a3 (IntKind.wrap .u64 (Int.tdiv x11 (2 : Int))) (IntKind.wrap .i64 (x12 + (1 : Int))) ((Int.tmod x11 (2 : Int)) == (1 : Int)) true) (halterref02_Round.l0_Q a0 a3 r))))))))))))))))) (by kernel_rfl) ?_)
    refine ⟨trivial, trivial, ?_⟩
    refine ⟨fun b28 => ?_, fun b28 => ?_⟩
    · rw [if_neg (of_decide_eq_false b28)] at h
      refine ⟨b28, ?_⟩
      refine ⟨trivial, ?_⟩
      refine ⟨b28, ?_⟩
      refine ⟨trivial, ?_⟩
      refine ⟨b28, ?_⟩
      refine ⟨fun b30 => ?_, fun b30 => ?_⟩
      · rw [if_pos (of_decide_eq_true b30)] at h
        refine ⟨b30, ?_⟩
        refine ⟨trivial, ?_⟩
        refine ⟨b30, ?_⟩
        refine ⟨trivial, ?_⟩
        refine ⟨b30, ?_⟩
        refine ⟨fun b31 => ?_, fun b31 => ?_⟩
        · rw [if_neg (of_decide_eq_false b31)] at h
          refine ⟨b30, ?_⟩
          refine ⟨b31, ?_⟩
          refine ⟨b30, ?_⟩
          refine ⟨fun b33 => ?_, fun b33 => ?_⟩
          · rw [if_neg (ff b33)] at h
            refine ⟨b30, ?_⟩
            refine ⟨b33, ?_⟩
            refine ⟨b28, ?_⟩
            refine ⟨b30, ?_⟩
            refine ⟨b28, ?_⟩
            refine ⟨fun b35 => ?_, fun b35 => ?_⟩
            · rw [if_pos b35] at h
              refine ⟨b35, ?_⟩
              refine ⟨b35, ?_⟩
              refine ⟨trivial, trivial, ?_⟩
              refine ⟨(by decide), ?_⟩
              refine ⟨trivial, trivial, trivial, ?_⟩
              refine ⟨(by decide), ?_⟩
              refine ⟨trivial, trivial, trivial, trivial, trivial, ?_⟩
              exact ⟨⟨trivial, trivial, trivial⟩, ih (IntKind.wrap .u64 (Int.tdiv x11 (2 : Int))) (IntKind.wrap .i64 (x12 + (1 : Int))) ((Int.tmod x11 (2 : Int)) == (1 : Int)) true r h⟩
            · rw [if_neg (ff b35)] at h
              obtain rfl := Option.some.inj h
              exact ⟨⟨trivial, trivial, trivial⟩, rfl, rfl⟩
          · rw [if_pos b33] at h
            refine ⟨b30, ?_⟩
            refine ⟨b33, ?_⟩
            refine ⟨b28, ?_⟩
            refine ⟨b30, ?_⟩
            refine ⟨b28, ?_⟩
            refine ⟨rfl, ?_⟩
            refine ⟨fun b34 => ?_, fun b34 => ?_⟩
            · rw [if_neg (ff b34)] at h
              refine ⟨b34, ?_⟩
              refine ⟨trivial, trivial, ?_⟩
              refine ⟨(by decide), ?_⟩
              refine ⟨trivial, trivial, trivial, ?_⟩
              refine ⟨(by decide), ?_⟩
              refine ⟨trivial, trivial, trivial, trivial, trivial, ?_⟩
              exact ⟨⟨trivial, trivial, trivial⟩, ih (IntKind.wrap .u64 (Int.tdiv x11 (2 : Int))) (IntKind.wrap .i64 (x12 + (1 : Int))) ((Int.tmod x11 (2 : Int)) == (1 : Int)) x13 r h⟩
            · rw [if_pos b34] at h
              refine ⟨b34, ?_⟩
              refine ⟨trivial, trivial, ?_⟩
              refine ⟨(by decide), ?_⟩
              refine ⟨trivial, trivial, trivial, ?_⟩
              refine ⟨(by decide), ?_⟩
              refine ⟨trivial, trivial, trivial, trivial, trivial, ?_⟩
              exact ⟨⟨trivial, trivial, trivial⟩, ih (IntKind.wrap .u64 (Int.tdiv x11 (2 : Int))) (IntKind.wrap .i64 (x12 + (1 : Int))) ((Int.tmod x11 (2 : Int)) == (1 : Int)) true r h⟩
        · rw [if_pos (of_decide_eq_true b31)] at h
          refine ⟨b30, ?_⟩
          refine ⟨b31, ?_⟩
          refine ⟨b30, ?_⟩
          refine ⟨rfl, ?_⟩
          refine ⟨b30, ?_⟩
          refine ⟨rfl, ?_⟩
          refine ⟨b28, ?_⟩
          refine ⟨b30, ?_⟩
          refine ⟨b28, ?_⟩
          refine ⟨rfl, ?_⟩
          refine ⟨fun b32 => ?_, fun b32 => ?_⟩
          · rw [if_neg (ff b32)] at h
            refine ⟨b32, ?_⟩
            refine ⟨trivial, trivial, ?_⟩
            refine ⟨(by decide), ?_⟩
            refine ⟨trivial, trivial, trivial, ?_⟩
            refine ⟨(by decide), ?_⟩
            refine ⟨trivial, trivial, trivial, trivial, trivial, ?_⟩
            exact ⟨⟨trivial, trivial, trivial⟩, ih (IntKind.wrap .u64 (Int.tdiv x11 (2 : Int))) (IntKind.wrap .i64 (x12 + (1 : Int))) ((Int.tmod x11 (2 : Int)) == (1 : Int)) x13 r h⟩
          · rw [if_pos b32] at h
            refine ⟨b32, ?_⟩
            refine ⟨trivial, trivial, ?_⟩
            refine ⟨(by decide), ?_⟩
            refine ⟨trivial, trivial, trivial, ?_⟩
            refine ⟨(by decide), ?_⟩
            refine ⟨trivial, trivial, trivial, trivial, trivial, ?_⟩
            exact ⟨⟨trivial, trivial, trivial⟩, ih (IntKind.wrap .u64 (Int.tdiv x11 (2 : Int))) (IntKind.wrap .i64 (x12 + (1 : Int))) ((Int.tmod x11 (2 : Int)) == (1 : Int)) true r h⟩
      · rw [if_neg (of_decide_eq_false b30)] at h
        refine ⟨b30, ?_⟩
        refine ⟨b30, ?_⟩
        refine ⟨b30, ?_⟩
        refine ⟨b30, ?_⟩
        refine ⟨b30, ?_⟩
        refine ⟨b30, ?_⟩
        refine ⟨b28, ?_⟩
        refine ⟨b30, ?_⟩
        refine ⟨b28, ?_⟩
        refine ⟨rfl, ?_⟩
        obtain rfl := Option.some.inj h
        exact ⟨⟨trivial, trivial, trivial⟩, rfl, rfl⟩
    · rw [if_pos (of_decide_eq_true b28)] at h
      refine ⟨b28, ?_⟩
      refine ⟨b28, ?_⟩
      refine ⟨b28, ?_⟩
      refine ⟨b28, ?_⟩
      refine ⟨b28, ?_⟩
      refine ⟨rfl, ?_⟩
      refine ⟨fun b29 => ?_, fun b29 => ?_⟩
      · rw [if_neg (ff b29)] at h
        refine ⟨b29, ?_⟩
        refine ⟨trivial, trivial, ?_⟩
        refine ⟨(by decide), ?_⟩
        refine ⟨trivial, trivial, trivial, ?_⟩
        refine ⟨(by decide), ?_⟩
        refine ⟨trivial, trivial, trivial, trivial, trivial, ?_⟩
        exact ⟨⟨trivial, trivial, trivial⟩, ih (IntKind.wrap .u64 (Int.tdiv x11 (2 : Int))) (IntKind.wrap .i64 (x12 + (1 : Int))) ((Int.tmod x11 (2 : Int)) == (1 : Int)) x13 r h⟩
      · rw [if_pos b29] at h
        refine ⟨b29, ?_⟩
        refine ⟨trivial, trivial, ?_⟩
        refine ⟨(by decide), ?_⟩
        refine ⟨trivial, trivial, trivial, ?_⟩
        refine ⟨(by decide), ?_⟩
        refine ⟨trivial, trivial, trivial, trivial, trivial, ?_⟩
        exact ⟨⟨trivial, trivial, trivial⟩, ih (IntKind.wrap .u64 (Int.tdiv x11 (2 : Int))) (IntKind.wrap .i64 (x12 + (1 : Int))) ((Int.tmod x11 (2 : Int)) == (1 : Int)) true r h⟩
def halterref02_Round.l1 (t27 : Int × Int × Bool × Bool) (a0 : Bool) (a3 : Bool) : Nat → Int → Int → Option (Int × Int)
  | 0, _, _ => none
  | n + 1, x49, x50 =>
    if x49 > (0 : Int) then
      if x49 < (4503599627370496 : Int) then
        if x50 > (-1074 : Int) then
          if ¬ (t27.2.2.1 = true) then
            if ¬ (t27.2.2.2 = true) then
              halterref02_Round.l1 t27 a0 a3 n (IntKind.wrap .u64 ((2 : Int) * x49)) (IntKind.wrap .i64 (x50 - (1 : Int)))
            else
              some (x49, x50)
          else
            some (x49, x50)
        else
          some (x49, x50)
      else
        some (x49, x50)
    else
      some (x49, x50)
def halterref02_Round.l1_S (t27 : Int × Int × Bool × Bool) (a0 : Bool) (a3 : Bool) (x49 : Int) (x50 : Int) : St := ⟨[.any, .v (.one (.ptr 0 ⟨0, 0, 0, 0⟩)), .any, .v (.one (.sc (.bool t27.2.2.1))), .v (.one (.sc (.bool t27.2.2.2))), .any, .any, .any, .any, .any, .any, .any, .any, .any, .any, .any, .any, .any, .any, .any, .any, .any, .any, .any, .any, .any, .any, .any, .any, .any, .any, .any, .any, .any, .any, .any, .any, .any, .any, .any, .any, .any, .any, .any, .any, .any, .any, .any, .any, .any, .any, .any, .any, .any, .any, .any, .any, .any, .any, .any, .any, .any, .any, .any, .any, .any, .any, .any, .any, .any, .any, .any, .any, .any, .any, .any, .any, .any, .any, .any, .any, .any, .any, .any, .any, .any, .any, .any, .any, .any, .any, .any, .any, .any, .any, .any, .any, .any, .any, .any, .any, .any, .any, .any, .any, .any, .any, .any, .any, .any, .any, .any, .any, .any, .any, .any, .any, .any, .any, .any, .any, .any, .any, .any, .any, .any, .any, .any, .any], [.ex false [.c (.sc (.bool a0)), .c (.sc (.int .u64 x49)), .c (.sc (.int .i64 x50)), .c (.sc (.bool a3))] 93], 0⟩
def halterref02_Round.l1_Q (t27 : Int × Int × Bool × Bool) (a0 : Bool) (a3 : Bool) (t : Int × Int) : Exit → St → Prop := fun e s => e = (.exit 2) ∧ s = ⟨[.any, .v (.one (.ptr 0 ⟨0, 0, 0, 0⟩)), .any, .v (.one (.sc (.bool t27.2.2.1))), .v (.one (.sc (.bool t27.2.2.2))), .any, .any, .any, .any, .any, .any, .any, .any, .any, .any, .any, .any, .any, .any, .any, .any, .any, .any, .any, .any, .any, .any, .any, .any, .any, .any, .any, .any, .any, .any, .any, .any, .any, .any, .any, .any, .any, .any, .any, .any, .any, .any, .any, .any, .any, .any, .any, .any, .any, .any, .any, .any, .any, .any, .any, .any, .any, .any, .any, .any, .any, .any, .any, .any, .any, .any, .any, .any, .any, .any, .any, .any, .any, .any, .any, .any, .any, .any, .any, .any, .any, .any, .any, .any, .any, .any, .any, .any, .any, .any, .any, .any, .any, .any, .any, .any, .any, .any, .any, .any, .any, .any, .any, .any, .any, .any, .any, .any, .any, .any, .any, .any, .any, .any, .any, .any, .any, .any, .any, .any, .any, .any, .any, .any], [.ex false [.c (.sc (.bool a0)), .c (.sc (.int .u64 t.1)), .c (.sc (.int .i64 t.2)), .c (.sc (.bool a3))] 93], 0⟩
theorem halterref02_Round.l1_ok (t27 : Int × Int × Bool × Bool) (a0 : Bool) (a3 : Bool) : ∀ (n : Nat) (x49 : Int) (x50 : Int) (r : Int × Int), halterref02_Round.l1 t27 a0 a3 n x49 x50 = some r → TripN cfg (cpath (Tryd.f63.body.getD .skip) [1, 1, 1, 0, 0, 0]) n (halterref02_Round.l1_S t27 a0 a3 x49 x50) (halterref02_Round.l1_Q t27 a0 a3 r) := by
  intro n
  induction n with
  | zero => intro x49 x50 r h; cases h
  | succ n ih =>
    intro x49 x50 r h
    rw [halterref02_Round.l1] at h
    refine TripN.of_run cfg_ok (k := (.br (oT 3 (.br (oT 3 (.br (oT 2 (.br (oT 2 (.br (aE 4 (.adj [.keep [1, 3, 4], .drop 1] .nil)) (.adj [.keep [1, 3, 4], .drop 1] .nil))) (oF 3 (.adj [.keep [1, 3, 4], .drop 1] .nil)))) (oF 6 (.adj [.keep [1, 3, 4], .drop 1] .nil)))) (oF 10 (.adj [.keep [1, 3, 4], .drop 1] .nil)))) (oF 14 (.adj [.keep [1, 3, 4], .drop 1] .nil)))) (to_goal (q := (True) ∧ (True) ∧ (((decide (x49 > (0 : Int))) = true → ((decide (x49 > (0 : Int))) = true ∧ (True) ∧ ((decide (x49 > (0 : Int))) = true ∧ (True) ∧ ((decide (x49 > (0 : Int))) = true ∧ (((decide (x49 < (4503599627370496 : Int))) = true → ((decide (x49 < (4503599627370496 : Int))) = true ∧ (True) ∧ ((decide (x49 < (4503599627370496 : Int))) = true ∧ (True) ∧ ((decide (x49 < (4503599627370496 : Int))) = true ∧ (((decide (x50 > (-1074 : Int))) = true → ((decide (x50 > (-1074 : Int))) = true ∧ ((decide (x50 > (-1074 : Int))) = true ∧ (((!(p2 t27)) = true → ((!(p2 t27)) = true ∧ ((!(p2 t27)) = true ∧ (((!(z3 t27)) = true → (True ∧ (True ∧ (True ∧ (True) ∧ (True) ∧ (True) ∧ (True ∧ (True) ∧ (True) ∧ (True) ∧ (((True) ∧ (True) ∧ True) ∧ TripN cfg (cpath (Tryd.f63.body.getD .skip) [1, 1, 1, 0, 0, 0]) n (halterref02_Round.l1_S t27 a0 a3 (IntKind.wrap .u64 ((2 : Int) * x49)) (IntKind.wrap .i64 (x50 - (1 : Int)))) (halterref02_Round.l1_Q t27 a0 a3 r))))))) ∧ ((!(z3 t27)) = false → (((True) ∧ (True) ∧ True) ∧ halterref02_Round.l1_Q t27 a0 a3 r (.exit 2) ⟨[.any, .v (.one (.ptr 0 ⟨0, 0, 0, 0⟩)), .any, .v (.one (.sc (.bool (p2 t27)))), .v (.one (.sc (.bool (z3 t27)))), .any, .any, .any, .any, .any, .any, .any, .any, .any, .any, .any, .any, .any, .any, .any, .any, .any, .any, .any, .any, .any, .any, .any, .any, .any, .any, .any, .any, .any, .any, .any, .any, .any, .any, .any, .any, .any, .any, .any, .any, .any, .any, .any, .any, .any, .any, .any, .any, .any, .any, .any, .any, .any, .any, .any, .any, .any, .any, .any, .any, .any, .any, .any, .any, .any, .any, .any, .any, .any, .any, .any, .any, .any, .any, .any, .any, .any, .any, .any, .any, .any, .any, .any, .any, .any, .any, .any, .any, .any, .any, .any, .any, .any, .any, .any, .any, .any, .any, .any, .any, .any, .any, .any, .any, .any, .any, .any, .any, .any, .any, .any, .any, .any, .any, .any, .any, .any, .any, .any, .any, .any, .any, .any, .any], [.ex false [.c (.sc (.bool a0)), .c (.sc (.int .u64 x49)), .c (.sc (.int .i64 x50)), .c (.sc (.bool a3))] 93], 0⟩)))))) ∧ ((!(p2 t27)) = false → ((!(p2 t27)) = false ∧ ((!(p2 t27)) = false ∧ (false = false ∧ (((True) ∧ (True) ∧ True) ∧ halterref02_Round.l1_Q t27 a0 a3 r (.exit 2) ⟨[.any, .v (.one (.ptr 0 ⟨0, 0, 0, 0⟩)), .any, .v (.one (.sc (.bool (p2 t27)))), .v (.one (.sc (.bool (z3 t27)))), .any, .any, .any, .any, .any, .any, .any, .any, .any, .any, .any, .any, .any, .any, .any, .any, .any, .any, .any, .any, .any, .any, .any, .any, .any, .any, .any, .any, .any, .any, .any, .any, .any, .any, .any, .any, .any, .any, .any, .any, .any, .any, .any, .any, .any, .any, .any, .any, .any, .any, .any, .any, .any, .any, .any, .any, .any, .any, .any, .any, .any, .any, .any, .any, .any, .any, .any, .any, .any, .any, .any, .any, .any, .any, .any, .any, .any, .any, .any, .any, .any, .any, .any, .any, .any, .any, .any, .any, .any, .any, .any, .any, .any, .any, .any, .any, .any, .any, .any, .any, .any, .any, .any, .any, .any, .any, .any, .any, .any, .any, .any, .any, .any, .any, .any, .any, .any, .any, .any, .any, .any, .any, .any, .any], [.ex false [.c (.sc (.bool a0)), .c (.sc (.int .u64 x49)), .c (.sc (.int .i64 x50)), .c (.sc (.bool a3))] 93], 0⟩))))))))) ∧ ((decide (x50 > (-1074 : Int))) = false → ((decide (x50 > (-1074 : Int))) = false ∧ ((decide (x50 > (-1074 : Int))) = false ∧ (false = false ∧ (false = false ∧ (false = false ∧ (false = false ∧ (((True) ∧ (True) ∧ True) ∧ halterref02_Round.l1_Q t27 a0 a3 r (.exit 2) ⟨[.any, .v (.one (.ptr 0 ⟨0, 0, 0, 0⟩)), .any, .v (.one (.sc (.bool (p2 t27)))), .v (.one (.sc (.bool (z3 t27)))), .any, .any, .any, .any, .any, .any, .any, .any, .any, .any, .any, .any, .any, .any, .any, .any, .any, .any, .any, .any, .any, .any, .any, .any, .any, .any, .any, .any, .any, .any, .any, .any, .any, .any, .any, .any, .any, .any, .any, .any, .any, .any, .any, .any, .any, .any, .any, .any, .any, .any, .any, .any, .any, .any, .any, .any, .any, .any, .any, .any, .any, .any, .any, .any, .any, .any, .any, .any, .any, .any, .any, .any, .any, .any, .any, .any, .any, .any, .any, .any, .any, .any, .any, .any, .any, .any, .any, .any, .any, .any, .any, .any, .any, .any, .any, .any, .any, .any, .any, .any, .any, .any, .any, .any, .any, .any, .any, .any, .any, .any, .any, .any, .any, .any, .any, .any, .any, .any, .any, .any, .any, .any, .any, .any], [.ex false [.c (.sc (.bool a0)), .c (.sc (.int .u64 x49)), .c (.sc (.int .i64 x50)), .c (.sc (.bool a3))] 93], 0⟩))))))))))))) ∧ ((decide (x49 < (4503599627370496 : Int))) = false → ((decide (x49 < (4503599627370496 : Int))) = false ∧ ((decide (x49 < (4503599627370496 : Int))) = false ∧ ((decide (x49 < (4503599627370496 : Int))) = false ∧ (false = false ∧ (false = false ∧ (false = false ∧ (false = false ∧ (false = false ∧ (false = false ∧ (false = false ∧ (((True) ∧ (True) ∧ True) ∧ halterref02_Round.l1_Q t27 a0 a3 r (.exit 2) ⟨[.any, .v (.one (.ptr 0 ⟨0, 0, 0, 0⟩)), .any, .v (.one (.sc (.bool (p2 t27)))), .v (.one (.sc (.bool (z3 t27)))), .any, .any, .any, .any, .any, .any, .any, .any, .any, .any, .any, .any, .any, .any, .any, .any, .any, .any, .any, .any, .any, .any, .any, .any, .any, .any, .any, .any, .any, .any, .any, .any, .any, .any, .any, .any, .any, .any, .any, .any, .any, .any, .any, .any, .any, .any, .any, .any, .any, .any, .any, .any, .any, .any, .any, .any, .any, .any, .any, .any, .any, .any, .any, .any, .any, .any, .any, .any, .any, .any, .any, .any, .any, .any, .any, .any, .any, .any, .any, .any, .any, .any, .any, .any, .any, .any, .any, .any, .any, .any, .any, .any, .any, .any, .any, .any, .any, .any, .any, .any, .any, .any, .any, .any, .any, .any, .any, .any, .any, .any, .any, .any, .any, .any, .any, .any, .any, .any, .any, .any, .any, .any, .any, .any], [.ex false [.c (.sc (.bool a0)), .c (.sc (.int .u64 x49)), .c (.sc (.int .i64 x50)), .c (.sc (.bool a3))] 93], 0⟩))))))))))))))))) ∧ ((decide (x49 > (0 : Int))) = false → ((decide (x49 > (0 : Int))) = false ∧ ((decide (x49 > (0 : Int))) = false ∧ ((decide (x49 > (0 : Int))) = false ∧ (false = false ∧ (false = false ∧ (false = false ∧ (false = false ∧ (false = false ∧ (false = false ∧ (false = false ∧ (false = false ∧ (false = false ∧ (false = false ∧ (false = false ∧ (((True) ∧ (True) ∧ True) ∧ halterref02_Round.l1_Q t27 a0 a3 r (.exit 2) ⟨[.any, .v (.one (.ptr 0 ⟨0, 0, 0, 0⟩)), .any, .v (.one (.sc (.bool (p2 t27)))), .v (.one (.sc (.bool (z3 t27)))), .any, .any, .any, .any, .any, .any, .any, .any, .any, .any, .any, .any, .any, .any, .any, .any, .any, .any, .any, .any, .any, .any, .any, .any, .any, .any, .any, .any, .any, .any, .any, .any, .any, .any, .any, .any, .any, .any, .any, .any, .any, .any, .any, .any, .any, .any, .any, .any, .any, .any, .any, .any, .any, .any, .any, .any, .any, .any, .any, .any, .any, .any, .any, .any, .any, .any, .any, .any, .any, .any, .any, .any, .any, .any, .any, .any, .any, .any, .any, .any, .any, .any, .any, .any, .any, .any, .any, .any, .any, .any, .any, .any, .any, .any, .any, .any, .any, .any, .any, .any, .any, .any, .any, .any, .any, .any, .any, .any, .any, .any, .any, .any, .any, .any, .any, .any, .any, .any, .any, .any, .any, .any, .any, .any], [.ex false [.c (.sc (.bool a0)), .c (.sc (.int .u64 x49)), .c (.sc (.int .i64 x50)), .c (.sc (.bool a3))] 93], 0⟩)))))))))))))))))) (by kernel_rfl) ?_)
    refine ⟨trivial, trivial, ?_⟩
    refine ⟨fun b59 => ?_, fun b59 => ?_⟩
    · rw [if_pos (of_decide_eq_true b59)] at h
      refine ⟨b59, ?_⟩
      refine ⟨trivial, ?_⟩
      refine ⟨b59, ?_⟩
      refine ⟨trivial, ?_⟩
      refine ⟨b59, ?_⟩
      refine ⟨fun b60 => ?_, fun b60 => ?_⟩
      · rw [if_pos (of_decide_eq_true b60)] at h
        refine ⟨b60, ?_⟩
        refine ⟨trivial, ?_⟩
        refine ⟨b60, ?_⟩
        refine ⟨trivial, ?_⟩
        refine ⟨b60, ?_⟩
        refine ⟨fun b61 => ?_, fun b61 => ?_⟩
        · rw [if_pos (of_decide_eq_true b61)] at h
          refine ⟨b61, ?_⟩
          refine ⟨b61, ?_⟩
          refine ⟨fun b62 => ?_, fun b62 => ?_⟩
          · rw [if_pos (ff (not_t b62))] at h
            refine ⟨b62, ?_⟩
            refine ⟨b62, ?_⟩
            refine ⟨fun b63 => ?_, fun b63 => ?_⟩
            · rw [if_pos (ff (not_t b63))] at h
              refine ⟨trivial, trivial, trivial, trivial, trivial, trivial, trivial, trivial, trivial, trivial, ?_⟩
              exact ⟨⟨trivial, trivial, trivial⟩, ih (IntKind.wrap .u64 ((2 : Int) * x49)) (IntKind.wrap .i64 (x50 - (1 : Int))) r h⟩
            · rw [if_neg (not_not_intro (not_f b63))] at h
              obtain rfl := Option.some.inj h
              exact ⟨⟨trivial, trivial, trivial⟩, rfl, rfl⟩
          · rw [if_neg (not_not_intro (not_f b62))] at h
            refine ⟨b62, ?_⟩
            refine ⟨b62, ?_⟩
            refine ⟨rfl, ?_⟩
            obtain rfl := Option.some.inj h
            exact ⟨⟨trivial, trivial, trivial⟩, rfl, rfl⟩
        · rw [if_neg (of_decide_eq_false b61)] at h
          refine ⟨b61, ?_⟩
          refine ⟨b61, ?_⟩
          refine ⟨rfl, rfl, rfl, rfl, ?_⟩
          obtain rfl := Option.some.inj h
          exact ⟨⟨trivial, trivial, trivial⟩, rfl, rfl⟩
      · rw [if_neg (of_decide_eq_false b60)] at h
        refine ⟨b60, ?_⟩
        refine ⟨b60, ?_⟩
        refine ⟨b60, ?_⟩
        refine ⟨rfl, rfl, rfl, rfl, rfl, rfl, rfl, ?_⟩
        obtain rfl := Option.some.inj h
        exact ⟨⟨trivial, trivial, trivial⟩, rfl, rfl⟩
    · rw [if_neg (of_decide_eq_false b59)] at h
      refine ⟨b59, ?_⟩
      refine ⟨b59, ?_⟩
      refine ⟨b59, ?_⟩
      refine ⟨rfl, rfl, rfl, rfl, rfl, rfl, rfl, rfl, rfl, rfl, rfl, ?_⟩
      obtain rfl := Option.some.inj h
      exact ⟨⟨trivial, trivial, trivial⟩, rfl, rfl⟩
def halterref02_Round.f (a0 : Bool) (a1 : Int) (a2 : Int) (a3 : Bool) : Option Int :=
  (halterref02_Round.l0 a0 a3 FUEL a1 a2 false a3).bind fun t27 =>
  (halterref02_Round.l1 t27 a0 a3 FUEL t27.1 t27.2.1).bind fun t58 =>
  if t27.2.2.1 = true then
    if t27.2.2.2 = true then
      if (IntKind.wrap .u64 (t58.1 + (1 : Int))) = (9007199254740992 : Int) then
        if (IntKind.wrap .u64 (Int.tdiv (IntKind.wrap .u64 (t58.1 + (1 : Int))) (2 : Int))) = (0 : Int) then
          (halterref02_signed.f a0 (0 : Int)).bind fun t72 =>
          some t72
        else
          if (IntKind.wrap .u64 (Int.tdiv (IntKind.wrap .u64 (t58.1 + (1 : Int))) (2 : Int))) < (4503599627370496 : Int) then
            (halterref02_signed.f a0 (IntKind.wrap .u64 (Int.tdiv (IntKind.wrap .u64 (t58.1 + (1 : Int))) (2 : Int)))).bind fun t74 =>
            some t74
          else
            if (IntKind.wrap .i64 ((IntKind.wrap .i64 (t58.2 + (1 : Int))) + (1075 : Int))) ≥ (2047 : Int) then
              (halterref02_signed.f a0 (9218868437227405312 : Int)).bind fun t76 =>
              some t76
            else
              (halterref02_signed.f a0 (IntKind.wrap .u64 ((IntKind.wrap .u64 ((IntKind.wrap .u64 ((IntKind.wrap .u64 ((IntKind.wrap .i64 ((IntKind.wrap .i64 (t58.2 + (1 : Int))) + (1075 : Int))))) * (4503599627370496 : Int))) + (IntKind.wrap .u64 (Int.tdiv (IntKind.wrap .u64 (t58.1 + (1 : Int))) (2 : Int))))) - (4503599627370496 : Int)))).bind fun t77 =>
              some t77
      else
        if (IntKind.wrap .u64 (t58.1 + (1 : Int))) = (0 : Int) then
          (halterref02_signed.f a0 (0 : Int)).bind fun t79 =>
          some t79
        else
          if (IntKind.wrap .u64 (t58.1 + (1 : Int))) < (4503599627370496 : Int) then
            (halterref02_signed.f a0 (IntKind.wrap .u64 (t58.1 + (1 : Int)))).bind fun t81 =>
            some t81
          else
            if (IntKind.wrap .i64 (t58.2 + (1075 : Int))) ≥ (2047 : Int) then
              (halterref02_signed.f a0 (9218868437227405312 : Int)).bind fun t83 =>
              some t83
            else
              (halterref02_signed.f a0 (IntKind.wrap .u64 ((IntKind.wrap .u64 ((IntKind.wrap .u64 ((IntKind.wrap .u64 ((IntKind.wrap .i64 (t58.2 + (1075 : Int))))) * (4503599627370496 : Int))) + (IntKind.wrap .u64 (t58.1 + (1 : Int))))) - (4503599627370496 : Int)))).bind fun t84 =>
              some t84
    else
      if (Int.tmod t58.1 (2 : Int)) = (1 : Int) then
        if (IntKind.wrap .u64 (t58.1 + (1 : Int))) = (9007199254740992 : Int) then
          if (IntKind.wrap .u64 (Int.tdiv (IntKind.wrap .u64 (t58.1 + (1 : Int))) (2 : Int))) = (0 : Int) then
            (halterref02_signed.f a0 (0 : Int)).bind fun t88 =>
            some t88
          else
            if (IntKind.wrap .u64 (Int.tdiv (IntKind.wrap .u64 (t58.1 + (1 : Int))) (2 : Int))) < (4503599627370496 : Int) then
              (halterref02_signed.f a0 (IntKind.wrap .u64 (Int.tdiv (IntKind.wrap .u64 (t58.1 + (1 : Int))) (2 : Int)))).bind fun t90 =>
              some t90
            else
              if (IntKind.wrap .i64 ((IntKind.wrap .i64 (t58.2 + (1 : Int))) + (1075 : Int))) ≥ (2047 : Int) then
                (halterref02_signed.f a0 (9218868437227405312 : Int)).bind fun t92 =>
                some t92
              else
                (halterref02_signed.f a0 (IntKind.wrap .u64 ((IntKind.wrap .u64 ((IntKind.wrap .u64 ((IntKind.wrap .u64 ((IntKind.wrap .i64 ((IntKind.wrap .i64 (t58.2 + (1 : Int))) + (1075 : Int))))) * (4503599627370496 : Int))) + (IntKind.wrap .u64 (Int.tdiv (IntKind.wrap .u64 (t58.1 + (1 : Int))) (2 : Int))))) - (4503599627370496 : Int)))).bind fun t93 =>
                some t93
        else
          if (IntKind.wrap .u64 (t58.1 + (1 : Int))) = (0 : Int) then
            (halterref02_signed.f a0 (0 : Int)).bind fun t95 =>
            some t95
          else
            if (IntKind.wrap .u64 (t58.1 + (1 : Int))) < (4503599627370496 : Int) then
              (halterref02_signed.f a0 (IntKind.wrap .u64 (t58.1 + (1 : Int)))).bind fun t97 =>
              some t97
            else
              if (IntKind.wrap .i64 (t58.2 + (1075 : Int))) ≥ (2047 : Int) then
                (halterref02_signed.f a0 (9218868437227405312 : Int)).bind fun t99 =>
                some t99
              else
                (halterref02_signed.f a0 (IntKind.wrap .u64 ((IntKind.wrap .u64 ((IntKind.wrap .u64 ((IntKind.wrap .u64 ((IntKind.wrap .i64 (t58.2 + (1075 : Int))))) * (4503599627370496 : Int))) + (IntKind.wrap .u64 (t58.1 + (1 : Int))))) - (4503599627370496 : Int)))).bind fun t100 =>
                some t100
      else
        if t58.1 = (9007199254740992 : Int) then
          if (IntKind.wrap .u64 (Int.tdiv t58.1 (2 : Int))) = (0 : Int) then
            (halterref02_signed.f a0 (0 : Int)).bind fun t103 =>
            some t103
          else
            if (IntKind.wrap .u64 (Int.tdiv t58.1 (2 : Int))) < (4503599627370496 : Int) then
              (halterref02_signed.f a0 (IntKind.wrap .u64 (Int.tdiv t58.1 (2 : Int)))).bind fun t105 =>
              some t105
            else
              if (IntKind.wrap .i64 ((IntKind.wrap .i64 (t58.2 + (1 : Int))) + (1075 : Int))) ≥ (2047 : Int) then
                (halterref02_signed.f a0 (9218868437227405312 : Int)).bind fun t107 =>
                some t107
              else
                (halterref02_signed.f a0 (IntKind.wrap .u64 ((IntKind.wrap .u64 ((IntKind.wrap .u64 ((IntKind.wrap .u64 ((IntKind.wrap .i64 ((IntKind.wrap .i64 (t58.2 + (1 : Int))) + (1075 : Int))))) * (4503599627370496 : Int))) + (IntKind.wrap .u64 (Int.tdiv t58.1 (2 : Int))))) - (4503599627370496 : Int)))).bind fun t108 =>
                some t108
        else
          if t58.1 = (0 : Int) then
            (halterref02_signed.f a0 (0 : Int)).bind fun t110 =>
            some t110
          else
            if t58.1 < (4503599627370496 : Int) then
              (halterref02_signed.f a0 t58.1).bind fun t112 =>
              some t112
            else
              if (IntKind.wrap .i64 (t58.2 + (1075 : Int))) ≥ (2047 : Int) then
                (halterref02_signed.f a0 (9218868437227405312 : Int)).bind fun t114 =>
                some t114
              else
                (halterref02_signed.f a0 (IntKind.wrap .u64 ((IntKind.wrap .u64 ((IntKind.wrap .u64 ((IntKind.wrap .u64 ((IntKind.wrap .i64 (t58.2 + (1075 : Int))))) * (4503599627370496 : Int))) + t58.1)) - (4503599627370496 : Int)))).bind fun t115 =>
                some t115
  else
    if t58.1 = (9007199254740992 : Int) then
      if (IntKind.wrap .u64 (Int.tdiv t58.1 (2 : Int))) = (0 : Int) then
        (halterref02_signed.f a0 (0 : Int)).bind fun t118 =>
        some t118
      else
        if (IntKind.wrap .u64 (Int.tdiv t58.1 (2 : Int))) < (4503599627370496 : Int) then
          (halterref02_signed.f a0 (IntKind.wrap .u64 (Int.tdiv t58.1 (2 : Int)))).bind fun t120 =>
          some t120
        else
          if (IntKind.wrap .i64 ((IntKind.wrap .i64 (t58.2 + (1 : Int))) + (1075 : Int))) ≥ (2047 : Int) then
            (halterref02_signed.f a0 (9218868437227405312 : Int)).bind fun t122 =>
            some t122
          else
            (halterref02_signed.f a0 (IntKind.wrap .u64 ((IntKind.wrap .u64 ((IntKind.wrap .u64 ((IntKind.wrap .u64 ((IntKind.wrap .i64 ((IntKind.wrap .i64 (t58.2 + (1 : Int))) + (1075 : Int))))) * (4503599627370496 : Int))) + (IntKind.wrap .u64 (Int.tdiv t58.1 (2 : Int))))) - (4503599627370496 : Int)))).bind fun t123 =>
            some t123
    else
      if t58.1 = (0 : Int) then
        (halterref02_signed.f a0 (0 : Int)).bind fun t125 =>
        some t125
      else
        if t58.1 < (4503599627370496 : Int) then
          (halterref02_signed.f a0 t58.1).bind fun t127 =>
          some t127
        else
          if (IntKind.wrap .i64 (t58.2 + (1075 : Int))) ≥ (2047 : Int) then
            (halterref02_signed.f a0 (9218868437227405312 : Int)).bind fun t129 =>
            some t129
          else
            (halterref02_signed.f a0 (IntKind.wrap .u64 ((IntKind.wrap .u64 ((IntKind.wrap .u64 ((IntKind.wrap .u64 ((IntKind.wrap .i64 (t58.2 + (1075 : Int))))) * (4503599627370496 : Int))) + t58.1)) - (4503599627370496 : Int)))).bind fun t130 =>
            some t130
def halterref02_Round.R (r : Int) : Tm := .v (.one (.sc (.int .u64 r)))
theorem halterref02_Round.fun_ {a0 : Bool} {a1 : Int} {a2 : Int} {a3 : Bool} {r : Int} (h : halterref02_Round.f a0 a1 a2 a3 = some r) : Fun cfg 63 [.agg [.c (.sc (.bool a0)), .c (.sc (.int .u64 a1)), .c (.sc (.int .i64 a2)), .c (.sc (.bool a3))]] [] (halterref02_Round.R r) [] := by
  unfold halterref02_Round.f at h
  refine fun_of_run cfg_ok (f := 63) (fn := Tryd.f63) Tryd.func63 rfl (by kernel_rfl) (rs := [.tmp 2]) rfl (nt := 129) rfl (l := fin) (k := (.dr [(0, dN), (2, dN), (1, dN), (3, dN)] (.adj [] (.adj [.keep [1, 3, 4]] (.sub (Int × Int × Bool × Bool) (fun _ => (.exit 0)) (fun t27 => ⟨[.any, .v (.one (.ptr 0 ⟨0, 0, 0, 0⟩)), .any, .v (.one (.sc (.bool (p2 t27)))), .v (.one (.sc (.bool (z3 t27)))), .any, .any, .any, .any, .any, .any, .any, .any, .any, .any, .any, .any, .any, .any, .any, .any, .any, .any, .any, .any, .any, .any, .any, .any, .any, .any, .any, .any, .any, .any, .any, .any, .any, .any, .any, .any, .any, .any, .any, .any, .any, .any, .any, .any, .any, .any, .any, .any, .any, .any, .any, .any, .any, .any, .any, .any, .any, .any, .any, .any, .any, .any, .any, .any, .any, .any, .any, .any, .any, .any, .any, .any, .any, .any, .any, .any, .any, .any, .any, .any, .any, .any, .any, .any, .any, .any, .any, .any, .any, .any, .any, .any, .any, .any, .any, .any, .any, .any, .any, .any, .any, .any, .any, .any, .any, .any, .any, .any, .any, .any, .any, .any, .any, .any, .any, .any, .any, .any, .any, .any, .any, .any, .any, .any], [.ex false [.c (.sc (.bool a0)), .c (.sc (.int .u64 t27.1)), .c (.sc (.int .i64 t27.2.1)), .c (.sc (.bool a3))] 93], 0⟩) (fun t27 => (.adj [] (.adj [.keep [1, 3, 4]] (.sub (Int × Int) (fun _ => (.exit 2)) (fun t58 => ⟨[.any, .v (.one (.ptr 0 ⟨0, 0, 0, 0⟩)), .any, .v (.one (.sc (.bool (p2 t27)))), .v (.one (.sc (.bool (z3 t27)))), .any, .any, .any, .any, .any, .any, .any, .any, .any, .any, .any, .any, .any, .any, .any, .any, .any, .any, .any, .any, .any, .any, .any, .any, .any, .any, .any, .any, .any, .any, .any, .any, .any, .any, .any, .any, .any, .any, .any, .any, .any, .any, .any, .any, .any, .any, .any, .any, .any, .any, .any, .any, .any, .any, .any, .any, .any, .any, .any, .any, .any, .any, .any, .any, .any, .any, .any, .any, .any, .any, .any, .any, .any, .any, .any, .any, .any, .any, .any, .any, .any, .any, .any, .any, .any, .any, .any, .any, .any, .any, .any, .any, .any, .any, .any, .any, .any, .any, .any, .any, .any, .any, .any, .any, .any, .any, .any, .any, .any, .any, .any, .any, .any, .any, .any, .any, .any, .any, .any, .any, .any, .any, .any, .any], [.ex false [.c (.sc (.bool a0)), .c (.sc (.int .u64 t58.1)), .c (.sc (.int .i64 t58.2)), .c (.sc (.bool a3))] 93], 0⟩) (fun t58 => (.br (.one true (.br (oT 7 (.br (.br (.call true [] (Int) halterref02_signed.R (fun t72 => (.adj [] (.adj [.drop 0] .nil)))) (.br (.call true [] (Int) halterref02_signed.R (fun t74 => (.adj [] (.adj [.drop 0] .nil)))) (.br (.call true [] (Int) halterref02_signed.R (fun t76 => (.adj [] (.adj [.drop 0] .nil)))) (.call true [] (Int) halterref02_signed.R (fun t77 => (.adj [] (.adj [.drop 0] .nil))))))) (.br (.call true [] (Int) halterref02_signed.R (fun t79 => (.adj [] (.adj [.drop 0] .nil)))) (.br (.call true [] (Int) halterref02_signed.R (fun t81 => (.adj [] (.adj [.drop 0] .nil)))) (.br (.call true [] (Int) halterref02_signed.R (fun t83 => (.adj [] (.adj [.drop 0] .nil)))) (.call true [] (Int) halterref02_signed.R (fun t84 => (.adj [] (.adj [.drop 0] .nil))))))))) (oF 3 (.one true (.one false (.one true (.br (.br (.br (.call true [] (Int) halterref02_signed.R (fun t88 => (.adj [] (.adj [.drop 0] .nil)))) (.br (.call true [] (Int) halterref02_signed.R (fun t90 => (.adj [] (.adj [.drop 0] .nil)))) (.br (.call true [] (Int) halterref02_signed.R (fun t92 => (.adj [] (.adj [.drop 0] .nil)))) (.call true [] (Int) halterref02_signed.R (fun t93 => (.adj [] (.adj [.drop 0] .nil))))))) (.br (.call true [] (Int) halterref02_signed.R (fun t95 => (.adj [] (.adj [.drop 0] .nil)))) (.br (.call true [] (Int) halterref02_signed.R (fun t97 => (.adj [] (.adj [.drop 0] .nil)))) (.br (.call true [] (Int) halterref02_signed.R (fun t99 => (.adj [] (.adj [.drop 0] .nil)))) (.call true [] (Int) halterref02_signed.R (fun t100 => (.adj [] (.adj [.drop 0] .nil)))))))) (.br (.br (.call true [] (Int) halterref02_signed.R (fun t103 => (.adj [] (.adj [.drop 0] .nil)))) (.br (.call true [] (Int) halterref02_signed.R (fun t105 => (.adj [] (.adj [.drop 0] .nil)))) (.br (.call true [] (Int) halterref02_signed.R (fun t107 => (.adj [] (.adj [.drop 0] .nil)))) (.call true [] (Int) halterref02_signed.R (fun t108 => (.adj [] (.adj [.drop 0] .nil))))))) (.br (.call true [] (Int) halterref02_signed.R (fun t110 => (.adj [] (.adj [.drop 0] .nil)))) (.br (.call true [] (Int) halterref02_signed.R (fun t112 => (.adj [] (.adj [.drop 0] .nil)))) (.br (.call true [] (Int) halterref02_signed.R (fun t114 => (.adj [] (.adj [.drop 0] .nil)))) (.call true [] (Int) halterref02_signed.R (fun t115 => (.adj [] (.adj [.drop 0] .nil))))))))))))))) (oF 4 (.br (.br (.call true [] (Int) halterref02_signed.R (fun t118 => (.adj [] (.adj [.drop 0] .nil)))) (.br (.call true [] (Int) halterref02_signed.R (fun t120 => (.adj [] (.adj [.drop 0] .nil)))) (.br (.call true [] (Int) halterref02_signed.R (fun t122 => (.adj [] (.adj [.drop 0] .nil)))) (.call true [] (Int) halterref02_signed.R (fun t123 => (.adj [] (.adj [.drop 0] .nil))))))) (.br (.call true [] (Int) halterref02_signed.R (fun t125 => (.adj [] (.adj [.drop 0] .nil)))) (.br (.call true [] (Int) halterref02_signed.R (fun t127 => (.adj [] (.adj [.drop 0] .nil)))) (.br (.call true [] (Int) halterref02_signed.R (fun t129 => (.adj [] (.adj [.drop 0] .nil)))) (.call true [] (Int) halterref02_signed.R (fun t130 => (.adj [] (.adj [.drop 0] .nil)))))))))))))))))))) (to_goal (q := (True) ∧ (True ∧ (((True) ∧ True) ∧ (∃ t27 : Int × Int × Bool × Bool, Trip cfg (.loop (cpath (Tryd.f63.body.getD .skip) [1, 1, 0, 0, 0])) ⟨[.any, .v (.one (.ptr 0 ⟨0, 0, 0, 0⟩)), .any, .v (.one (.sc (.bool false))), .v (.one (.sc (.bool a3))), .any, .any, .any, .any, .any, .any, .any, .any, .any, .any, .any, .any, .any, .any, .any, .any, .any, .any, .any, .any, .any, .any, .any, .any, .any, .any, .any, .any, .any, .any, .any, .any, .any, .any, .any, .any, .any, .any, .any, .any, .any, .any, .any, .any, .any, .any, .any, .any, .any, .any, .any, .any, .any, .any, .any, .any, .any, .any, .any, .any, .any, .any, .any, .any, .any, .any, .any, .any, .any, .any, .any, .any, .any, .any, .any, .any, .any, .any, .any, .any, .any, .any, .any, .any, .any, .any, .any, .any, .any, .any, .any, .any, .any, .any, .any, .any, .any, .any, .any, .any, .any, .any, .any, .any, .any, .any, .any, .any, .any, .any, .any, .any, .any, .any, .any, .any, .any, .any, .any, .any, .any, .any, .any, .any], [.ex false [.c (.sc (.bool a0)), .c (.sc (.int .u64 a1)), .c (.sc (.int .i64 a2)), .c (.sc (.bool a3))] 93], 0⟩ (fun e s => e = (.exit 0) ∧ s = ⟨[.any, .v (.one (.ptr 0 ⟨0, 0, 0, 0⟩)), .any, .v (.one (.sc (.bool (p2 t27)))), .v (.one (.sc (.bool (z3 t27)))), .any, .any, .any, .any, .any, .any, .any, .any, .any, .any, .any, .any, .any, .any, .any, .any, .any, .any, .any, .any, .any, .any, .any, .any, .any, .any, .any, .any, .any, .any, .any, .any, .any, .any, .any, .any, .any, .any, .any, .any, .any, .any, .any, .any, .any, .any, .any, .any, .any, .any, .any, .any, .any, .any, .any, .any, .any, .any, .any, .any, .any, .any, .any, .any, .any, .any, .any, .any, .any, .any, .any, .any, .any, .any, .any, .any, .any, .any, .any, .any, .any, .any, .any, .any, .any, .any, .any, .any, .any, .any, .any, .any, .any, .any, .any, .any, .any, .any, .any, .any, .any, .any, .any, .any, .any, .any, .any, .any, .any, .any, .any, .any, .any, .any, .any, .any, .any, .any, .any, .any, .any, .any, .any, .any], [.ex false [.c (.sc (.bool a0)), .c (.sc (.int .u64 t27.1)), .c (.sc (.int .i64 t27.2.1)), .c (.sc (.bool a3))] 93], 0⟩) ∧ (True ∧ (((True) ∧ True) ∧ (∃ t58 : Int × Int, Trip cfg (.loop (cpath (Tryd.f63.body.getD .skip) [1, 1, 1, 0, 0, 0])) ⟨[.any, .v (.one (.ptr 0 ⟨0, 0, 0, 0⟩)), .any, .v (.one (.sc (.bool (p2 t27)))), .v (.one (.sc (.bool (z3 t27)))), .any, .any, .any, .any, .any, .any, .any, .any, .any, .any, .any, .any, .any, .any, .any, .any, .any, .any, .any, .any, .any, .any, .any, .any, .any, .any, .any, .any, .any, .any, .any, .any, .any, .any, .any, .any, .any, .any, .any, .any, .any, .any, .any, .any, .any, .any, .any, .any, .any, .any, .any, .any, .any, .any, .any, .any, .any, .any, .any, .any, .any, .any, .any, .any, .any, .any, .any, .any, .any, .any, .any, .any, .any, .any, .any, .any, .any, .any, .any, .any, .any, .any, .any, .any, .any, .any, .any, .any, .any, .any, .any, .any, .any, .any, .any, .any, .any, .any, .any, .any, .any, .any, .any, .any, .any, .any, .any, .any, .any, .any, .any, .any, .any, .any, .any, .any, .any, .any, .any, .any, .any, .any, .any, .any], [.ex false [.c (.sc (.bool a0)), .c (.sc (.int .u64 t27.1)), .c (.sc (.int .i64 t27.2.1)), .c (.sc (.bool a3))] 93], 0⟩ (fun e s => e = (.exit 2) ∧ s = ⟨[.any, .v (.one (.ptr 0 ⟨0, 0, 0, 0⟩)), .any, .v (.one (.sc (.bool (p2 t27)))), .v (.one (.sc (.bool (z3 t27)))), .any, .any, .any, .any, .any, .any, .any, .any, .any, .any, .any, .any, .any, .any, .any, .any, .any, .any, .any, .any, .any, .any, .any, .any, .any, .any, .any, .any, .any, .any, .any, .any, .any, .any, .any, .any, .any, .any, .any, .any, .any, .any, .any, .any, .any, .any, .any, .any, .any, .any, .any, .any, .any, .any, .any, .any, .any, .any, .any, .any, .any, .any, .any, .any, .any, .any, .any, .any, .any, .any, .any, .any, .any, .any, .any, .any, .any, .any, .any, .any, .any, .any, .any, .any, .any, .any, .any, .any, .any, .any, .any, .any, .any, .any, .any, .any, .any, .any, .any, .any, .any, .any, .any, .any, .any, .any, .any, .any, .any, .any, .any, .any, .any, .any, .any, .any, .any, .any, .any, .any, .any, .any, .any, .any], [.ex false [.c (.sc (.bool a0)), .c (.sc (.int .u64 t58.1)), .c (.sc (.int .i64 t58.2)), .c (.sc (.bool a3))] 93], 0⟩) ∧ (((p2 t27) = true → ((p2 t27) = true ∧ (((z3 t27) = false → ((z3 t27) = false ∧ (True) ∧ ((z3 t27) = false ∧ ((2 : Int) ≠ 0) ∧ ((z3 t27) = false ∧ (True) ∧ ((p2 t27) = true ∧ ((z3 t27) = false ∧ ((p2 t27) = true ∧ ((((Int.tmod t58.1 (2 : Int)) == (1 : Int)) = true → (True) ∧ (True) ∧ (True) ∧ (True) ∧ (True) ∧ ((((IntKind.wrap .u64 (t58.1 + (1 : Int))) == (9007199254740992 : Int)) = true → (True) ∧ ((2 : Int) ≠ 0) ∧ (True) ∧ (True) ∧ (True) ∧ (True) ∧ (True) ∧ (True) ∧ ((((IntKind.wrap .u64 (Int.tdiv (IntKind.wrap .u64 (t58.1 + (1 : Int))) (2 : Int))) == (0 : Int)) = true → (True) ∧ (∃ t88 : Int, (Fun cfg 62 [.one (.sc (.bool a0)), .one (.sc (.int .u64 (0 : Int)))] [] (halterref02_signed.R t88) [] ∧ True) ∧ (True ∧ ((True) ∧ ((True) ∧ True) ∧ (.v (.one (.sc (.int .u64 t88))) : Tm) = halterref02_Round.R r ∧ ([] : List Box) = [])))) ∧ (((IntKind.wrap .u64 (Int.tdiv (IntKind.wrap .u64 (t58.1 + (1 : Int))) (2 : Int))) == (0 : Int)) = false → (True) ∧ (True) ∧ (((decide ((IntKind.wrap .u64 (Int.tdiv (IntKind.wrap .u64 (t58.1 + (1 : Int))) (2 : Int))) < (4503599627370496 : Int))) = true → (True) ∧ (True) ∧ (∃ t90 : Int, (Fun cfg 62 [.one (.sc (.bool a0)), .one (.sc (.int .u64 (IntKind.wrap .u64 (Int.tdiv (IntKind.wrap .u64 (t58.1 + (1 : Int))) (2 : Int)))))] [] (halterref02_signed.R t90) [] ∧ True) ∧ (True ∧ ((True) ∧ ((True) ∧ True) ∧ (.v (.one (.sc (.int .u64 t90))) : Tm) = halterref02_Round.R r ∧ ([] : List Box) = [])))) ∧ ((decide ((IntKind.wrap .u64 (Int.tdiv (IntKind.wrap .u64 (t58.1 + (1 : Int))) (2 : Int))) < (4503599627370496 : Int))) = false → (True) ∧ (True) ∧ (True) ∧ (((decide ((IntKind.wrap .i64 ((IntKind.wrap .i64 (t58.2 + (1 : Int))) + (1075 : Int))) ≥ (2047 : Int))) = true → (True) ∧ (∃ t92 : Int, (Fun cfg 62 [.one (.sc (.bool a0)), .one (.sc (.int .u64 (9218868437227405312 : Int)))] [] (halterref02_signed.R t92) [] ∧ True) ∧ (True ∧ ((True) ∧ ((True) ∧ True) ∧ (.v (.one (.sc (.int .u64 t92))) : Tm) = halterref02_Round.R r ∧ ([] : List Box) = [])))) ∧ ((decide ((IntKind.wrap .i64 ((IntKind.wrap .i64 (t58.2 + (1 : Int))) + (1075 : Int))) ≥ (2047 : Int))) = false → (True) ∧ (True) ∧ (True) ∧ (True) ∧ (True) ∧ (True) ∧ (True) ∧ (True) ∧ (∃ t93 : Int, (Fun cfg 62 [.one (.sc (.bool a0)), .one (.sc (.int .u64 (IntKind.wrap .u64 ((IntKind.wrap .u64 ((IntKind.wrap .u64 ((IntKind.wrap .u64 ((IntKind.wrap .i64 ((IntKind.wrap .i64 (t58.2 + (1 : Int))) + (1075 : Int))))) * (4503599627370496 : Int))) + (IntKind.wrap .u64 (Int.tdiv (IntKind.wrap .u64 (t58.1 + (1 : Int))) (2 : Int))))) - (4503599627370496 : Int)))))] [] (halterref02_signed.R t93) [] ∧ True) ∧ (True ∧ ((True) ∧ ((True) ∧ True) ∧ (.v (.one (.sc (.int .u64 t93))) : Tm) = halterref02_Round.R r ∧ ([] : List Box) = [])))))))))) ∧ (((IntKind.wrap .u64 (t58.1 + (1 : Int))) == (9007199254740992 : Int)) = false → (True) ∧ (True) ∧ ((((IntKind.wrap .u64 (t58.1 + (1 : Int))) == (0 : Int)) = true → (True) ∧ (∃ t95 : Int, (Fun cfg 62 [.one (.sc (.bool a0)), .one (.sc (.int .u64 (0 : Int)))] [] (halterref02_signed.R t95) [] ∧ True) ∧ (True ∧ ((True) ∧ ((True) ∧ True) ∧ (.v (.one (.sc (.int .u64 t95))) : Tm) = halterref02_Round.R r ∧ ([] : List Box) = [])))) ∧ (((IntKind.wrap .u64 (t58.1 + (1 : Int))) == (0 : Int)) = false → (True) ∧ (True) ∧ (((decide ((IntKind.wrap .u64 (t58.1 + (1 : Int))) < (4503599627370496 : Int))) = true → (True) ∧ (True) ∧ (∃ t97 : Int, (Fun cfg 62 [.one (.sc (.bool a0)), .one (.sc (.int .u64 (IntKind.wrap .u64 (t58.1 + (1 : Int)))))] [] (halterref02_signed.R t97) [] ∧ True) ∧ (True ∧ ((True) ∧ ((True) ∧ True) ∧ (.v (.one (.sc (.int .u64 t97))) : Tm) = halterref02_Round.R r ∧ ([] : List Box) = [])))) ∧ ((decide ((IntKind.wrap .u64 (t58.1 + (1 : Int))) < (4503599627370496 : Int))) = false → (True) ∧ (True) ∧ (True) ∧ (((decide ((IntKind.wrap .i64 (t58.2 + (1075 : Int))) ≥ (2047 : Int))) = true → (True) ∧ (∃ t99 : Int, (Fun cfg 62 [.one (.sc (.bool a0)), .one (.sc (.int .u64 (9218868437227405312 : Int)))] [] (halterref02_signed.R t99) [] ∧ True) ∧ (True ∧ ((True) ∧ ((True) ∧ True) ∧ (.v (.one (.sc (.int .u64 t99))) : Tm) = halterref02_Round.R r ∧ ([] : List Box) = [])))) ∧ ((decide ((IntKind.wrap .i64 (t58.2 + (1075 : Int))) ≥ (2047 : Int))) = false → (True) ∧ (True) ∧ (True) ∧ (True) ∧ (True) ∧ (True) ∧ (True) ∧ (True) ∧ (∃ t100 : Int, (Fun cfg 62 [.one (.sc (.bool a0)), .one (.sc (.int .u64 (IntKind.wrap .u64 ((IntKind.wrap .u64 ((IntKind.wrap .u64 ((IntKind.wrap .u64 ((IntKind.wrap .i64 (t58.2 + (1075 : Int))))) * (4503599627370496 : Int))) + (IntKind.wrap .u64 (t58.1 + (1 : Int))))) - (4503599627370496 : Int)))))] [] (halterref02_signed.R t100) [] ∧ True) ∧ (True ∧ ((True) ∧ ((True) ∧ True) ∧ (.v (.one (.sc (.int .u64 t100))) : Tm) = halterref02_Round.R r ∧ ([] : List Box) = [])))))))))))) ∧ (((Int.tmod t58.1 (2 : Int)) == (1 : Int)) = false → (True) ∧ (True) ∧ (((t58.1 == (9007199254740992 : Int)) = true → (True) ∧ ((2 : Int) ≠ 0) ∧ (True) ∧ (True) ∧ (True) ∧ (True) ∧ (True) ∧ (True) ∧ ((((IntKind.wrap .u64 (Int.tdiv t58.1 (2 : Int))) == (0 : Int)) = true → (True) ∧ (∃ t103 : Int, (Fun cfg 62 [.one (.sc (.bool a0)), .one (.sc (.int .u64 (0 : Int)))] [] (halterref02_signed.R t103) [] ∧ True) ∧ (True ∧ ((True) ∧ ((True) ∧ True) ∧ (.v (.one (.sc (.int .u64 t103))) : Tm) = halterref02_Round.R r ∧ ([] : List Box) = [])))) ∧ (((IntKind.wrap .u64 (Int.tdiv t58.1 (2 : Int))) == (0 : Int)) = false → (True) ∧ (True) ∧ (((decide ((IntKind.wrap .u64 (Int.tdiv t58.1 (2 : Int))) < (4503599627370496 : Int))) = true → (True) ∧ (True) ∧ (∃ t105 : Int, (Fun cfg 62 [.one (.sc (.bool a0)), .one (.sc (.int .u64 (IntKind.wrap .u64 (Int.tdiv t58.1 (2 : Int)))))] [] (halterref02_signed.R t105) [] ∧ True) ∧ (True ∧ ((True) ∧ ((True) ∧ True) ∧ (.v (.one (.sc (.int .u64 t105))) : Tm) = halterref02_Round.R r ∧ ([] : List Box) = [])))) ∧ ((decide ((IntKind.wrap .u64 (Int.tdiv t58.1 (2 : Int))) < (4503599627370496 : Int))) = false → (True) ∧ (True) ∧ (True) ∧ (((decide ((IntKind.wrap .i64 ((IntKind.wrap .i64 (t58.2 + (1 : Int))) + (1075 : Int))) ≥ (2047 : Int))) = true → (True) ∧ (∃ t107 : Int, (Fun cfg 62 [.one (.sc (.bool a0)), .one (.sc (.int .u64 (9218868437227405312 : Int)))] [] (halterref02_signed.R t107) [] ∧ True) ∧ (True ∧ ((True) ∧ ((True) ∧ True) ∧ (.v (.one (.sc (.int .u64 t107))) : Tm) = halterref02_Round.R r ∧ ([] : List Box) = [])))) ∧ ((decide ((IntKind.wrap .i64 ((IntKind.wrap .i64 (t58.2 + (1 : Int))) + (1075 : Int))) ≥ (2047 : Int))) = false → (True) ∧ (True) ∧ (True) ∧ (True) ∧ (True) ∧ (True) ∧ (True) ∧ (True) ∧ (∃ t108 : Int, (Fun cfg 62 [.one (.sc (.bool a0)), .one (.sc (.int .u64 (IntKind.wrap .u64 ((IntKind.wrap .u64 ((IntKind.wrap .u64 ((IntKind.wrap .u64 ((IntKind.wrap .i64 ((IntKind.wrap .i64 (t58.2 + (1 : Int))) + (1075 : Int))))) * (4503599627370496 : Int))) + (IntKind.wrap .u64 (Int.tdiv t58.1 (2 : Int))))) - (4503599627370496 : Int)))))] [] (halterref02_signed.R t108) [] ∧ True) ∧ (True ∧ ((True) ∧ ((True) ∧ True) ∧ (.v (.one (.sc (.int .u64 t108))) : Tm) = halterref02_Round.R r ∧ ([] : List Box) = [])))))))))) ∧ ((t58.1 == (9007199254740992 : Int)) = false → (True) ∧ (True) ∧ (((t58.1 == (0 : Int)) = true → (True) ∧ (∃ t110 : Int, (Fun cfg 62 [.one (.sc (.bool a0)), .one (.sc (.int .u64 (0 : Int)))] [] (halterref02_signed.R t110) [] ∧ True) ∧ (True ∧ ((True) ∧ ((True) ∧ True) ∧ (.v (.one (.sc (.int .u64 t110))) : Tm) = halterref02_Round.R r ∧ ([] : List Box) = [])))) ∧ ((t58.1 == (0 : Int)) = false → (True) ∧ (True) ∧ (((decide (t58.1 < (4503599627370496 : Int))) = true → (True) ∧ (True) ∧ (∃ t112 : Int, (Fun cfg 62 [.one (.sc (.bool a0)), .one (.sc (.int .u64 t58.1))] [] (halterref02_signed.R t112) [] ∧ True) ∧ (True ∧ ((True) ∧ ((True) ∧ True) ∧ (.v (.one (.sc (.int .u64 t112))) : Tm) = halterref02_Round.R r ∧ ([] : List Box) = [])))) ∧ ((decide (t58.1 < (4503599627370496 : Int))) = false → (True) ∧ (True) ∧ (True) ∧ (((decide ((IntKind.wrap .i64 (t58.2 + (1075 : Int))) ≥ (2047 : Int))) = true → (True) ∧ (∃ t114 : Int, (Fun cfg 62 [.one (.sc (.bool a0)), .one (.sc (.int .u64 (9218868437227405312 : Int)))] [] (halterref02_signed.R t114) [] ∧ True) ∧ (True ∧ ((True) ∧ ((True) ∧ True) ∧ (.v (.one (.sc (.int .u64 t114))) : Tm) = halterref02_Round.R r ∧ ([] : List Box) = [])))) ∧ ((decide ((IntKind.wrap .i64 (t58.2 + (1075 : Int))) ≥ (2047 : Int))) = false → (True) ∧ (True) ∧ (True) ∧ (True) ∧ (True) ∧ (True) ∧ (True) ∧ (True) ∧ (∃ t115 : Int, (Fun cfg 62 [.one (.sc (.bool a0)), .one (.sc (.int .u64 (IntKind.wrap .u64 ((IntKind.wrap .u64 ((IntKind.wrap .u64 ((IntKind.wrap .u64 ((IntKind.wrap .i64 (t58.2 + (1075 : Int))))) * (4503599627370496 : Int))) + t58.1)) - (4503599627370496 : Int)))))] [] (halterref02_signed.R t115) [] ∧ True) ∧ (True ∧ ((True) ∧ ((True) ∧ True) ∧ (.v (.one (.sc (.int .u64 t115))) : Tm) = halterref02_Round.R r ∧ ([] : List Box) = [])))))))))))))))))))) ∧ ((z3 t27) = true → ((z3 t27) = true ∧ ((z3 t27) = true ∧ ((z3 t27) = true ∧ ((p2 t27) = true ∧ ((z3 t27) = true ∧ ((p2 t27) = true ∧ (true = true ∧ (True) ∧ (True) ∧ (True) ∧ (True) ∧ (True) ∧ ((((IntKind.wrap .u64 (t58.1 + (1 : Int))) == (9007199254740992 : Int)) = true → (True) ∧ ((2 : Int) ≠ 0) ∧ (True) ∧ (True) ∧ (True) ∧ (True) ∧ (True) ∧ (True) ∧ ((((IntKind.wrap .u64 (Int.tdiv (IntKind.wrap .u64 (t58.1 + (1 : Int))) (2 : Int))) == (0 : Int)) = true → (True) ∧ (∃ t72 : Int, (Fun cfg 62 [.one (.sc (.bool a0)), .one (.sc (.int .u64 (0 : Int)))] [] (halterref02_signed.R t72) [] ∧ True) ∧ (True ∧ ((True) ∧ ((True) ∧ True) ∧ (.v (.one (.sc (.int .u64 t72))) : Tm) = halterref02_Round.R r ∧ ([] : List Box) = [])))) ∧ (((IntKind.wrap .u64 (Int.tdiv (IntKind.wrap .u64 (t58.1 + (1 : Int))) (2 : Int))) == (0 : Int)) = false → (True) ∧ (True) ∧ (((decide ((IntKind.wrap .u64 (Int.tdiv (IntKind.wrap .u64 (t58.1 + (1 : Int))) (2 : Int))) < (4503599627370496 : Int))) = true → (True) ∧ (True) ∧ (∃ t74 : Int, (Fun cfg 62 [.one (.sc (.bool a0)), .one (.sc (.int .u64 (IntKind.wrap .u64 (Int.tdiv (IntKind.wrap .u64 (t58.1 + (1 : Int))) (2 : Int)))))] [] (halterref02_signed.R t74) [] ∧ True) ∧ (True ∧ ((True) ∧ ((True) ∧ True) ∧ (.v (.one (.sc (.int .u64 t74))) : Tm) = halterref02_Round.R r ∧ ([] : List Box) = [])))) ∧ ((decide ((IntKind.wrap .u64 (Int.tdiv (IntKind.wrap .u64 (t58.1 + (1 : Int))) (2 : Int))) < (4503599627370496 : Int))) = false → (True) ∧ (True) ∧ (True) ∧ (((decide ((IntKind.wrap .i64 ((IntKind.wrap .i64 (t58.2 + (1 : Int))) + (1075 : Int))) ≥ (2047 : Int))) = true → (True) ∧ (∃ t76 : Int, (Fun cfg 62 [.one (.sc (.bool a0)), .one (.sc (.int .u64 (9218868437227405312 : Int)))] [] (halterref02_signed.R t76) [] ∧ True) ∧ (True ∧ ((True) ∧ ((True) ∧ True) ∧ (.v (.one (.sc (.int .u64 t76))) : Tm) = halterref02_Round.R r ∧ ([] : List Box) = [])))) ∧ ((decide ((IntKind.wrap .i64 ((IntKind.wrap .i64 (t58.2 + (1 : Int))) + (1075 : Int))) ≥ (2047 : Int))) = false → (True) ∧ (True) ∧ (True) ∧ (True) ∧ (True) ∧ (True) ∧ (True) ∧ (True) ∧ (∃ t77 : Int, (Fun cfg 62 [.one (.sc (.bool a0)), .one (.sc (.int .u64 (IntKind.wrap .u64 ((IntKind.wrap .u64 ((IntKind.wrap .u64 ((IntKind.wrap .u64 ((IntKind.wrap .i64 ((IntKind.wrap .i64 (t58.2 + (1 : Int))) + (1075 : Int))))) * (4503599627370496 : Int))) + (IntKind.wrap .u64 (Int.tdiv (IntKind.wrap .u64 (t58.1 + (1 : Int))) (2 : Int))))) - (4503599627370496 : Int)))))] [] (halterref02_signed.R t77) [] ∧ True) ∧ (True ∧ ((True) ∧ ((True) ∧ True) ∧ (.v (.one (.sc (.int .u64 t77))) : Tm) = halterref02_Round.R r ∧ ([] : List Box) = [])))))))))) ∧ (((IntKind.wrap .u64 (t58.1 + (1 : Int))) == (9007199254740992 : Int)) = false → (True) ∧ (True) ∧ ((((IntKind.wrap .u64 (t58.1 + (1 : Int))) == (0 : Int)) = true → (True) ∧ (∃ t79 : Int, (Fun cfg 62 [.one (.sc (.bool a0)), .one (.sc (.int .u64 (0 : Int)))] [] (halterref02_signed.R t79) [] ∧ True) ∧ (True ∧ ((True) ∧ ((True) ∧ True) ∧ (.v (.one (.sc (.int .u64 t79))) : Tm) = halterref02_Round.R r ∧ ([] : List Box) = [])))) ∧ (((IntKind.wrap .u64 (t58.1 + (1 : Int))) == (0 : Int)) = false → (True) ∧ (True) ∧ (((decide ((IntKind.wrap .u64 (t58.1 + (1 : Int))) < (4503599627370496 : Int))) = true → (True) ∧ (True) ∧ (∃ t81 : Int, (Fun cfg 62 [.one (.sc (.bool a0)), .one (.sc (.int .u64 (IntKind.wrap .u64 (t58.1 + (1 : Int)))))] [] (halterref02_signed.R t81) [] ∧ True) ∧ (True ∧ ((True) ∧ ((True) ∧ True) ∧ (.v (.one (.sc (.int .u64 t81))) : Tm) = halterref02_Round.R r ∧ ([] : List Box) = [])))) ∧ ((decide ((IntKind.wrap .u64 (t58.1 + (1 : Int))) < (4503599627370496 : Int))) = false → (True) ∧ (True) ∧ (True) ∧ (((decide ((IntKind.wrap .i64 (t58.2 + (1075 : Int))) ≥ (2047 : Int))) = true → (True) ∧ (∃ t83 : Int, (Fun cfg 62 [.one (.sc (.bool a0)), .one (.sc (.int .u64 (9218868437227405312 : Int)))] [] (halterref02_signed.R t83) [] ∧ True) ∧ (True ∧ ((True) ∧ ((True) ∧ True) ∧ (.v (.one (.sc (.int .u64 t83))) : Tm) = halterref02_Round.R r ∧ ([] : List Box) = [])))) ∧ ((decide ((IntKind.wrap .i64 (t58.2 + (1075 : Int))) ≥ (2047 : Int))) = false → (True) ∧ (True) ∧ (True) ∧ (True) ∧ (True) ∧ (True) ∧ (True) ∧ (True) ∧ (∃ t84 : Int, (Fun cfg 62 [.one (.sc (.bool a0)), .one (.sc (.int .u64 (IntKind.wrap .u64 ((IntKind.wrap .u64 ((IntKind.wrap .u64 ((IntKind.wrap .u64 ((IntKind.wrap .i64 (t58.2 + (1075 : Int))))) * (4503599627370496 : Int))) + (IntKind.wrap .u64 (t58.1 + (1 : Int))))) - (4503599627370496 : Int)))))] [] (halterref02_signed.R t84) [] ∧ True) ∧ (True ∧ ((True) ∧ ((True) ∧ True) ∧ (.v (.one (.sc (.int .u64 t84))) : Tm) = halterref02_Round.R r ∧ ([] : List Box) = [])))))))))))))))))))))) ∧ ((p2 t27) = false → ((p2 t27) = false ∧ ((p2 t27) = false ∧ ((p2 t27) = false ∧ (false = false ∧ (True) ∧ (True) ∧ (((t58.1 == (9007199254740992 : Int)) = true → (True) ∧ ((2 : Int) ≠ 0) ∧ (True) ∧ (True) ∧ (True) ∧ (True) ∧ (True) ∧ (True) ∧ ((((IntKind.wrap .u64 (Int.tdiv t58.1 (2 : Int))) == (0 : Int)) = true → (True) ∧ (∃ t118 : Int, (Fun cfg 62 [.one (.sc (.bool a0)), .one (.sc (.int .u64 (0 : Int)))] [] (halterref02_signed.R t118) [] ∧ True) ∧ (True ∧ ((True) ∧ ((True) ∧ True) ∧ (.v (.one (.sc (.int .u64 t118))) : Tm) = halterref02_Round.R r ∧ ([] : List Box) = [])))) ∧ (((IntKind.wrap .u64 (Int.tdiv t58.1 (2 : Int))) == (0 : Int)) = false → (True) ∧ (True) ∧ (((decide ((IntKind.wrap .u64 (Int.tdiv t58.1 (2 : Int))) < (4503599627370496 : Int))) = true → (True) ∧ (True) ∧ (∃ t120 : Int, (Fun cfg 62 [.one (.sc (.bool a0)), .one (.sc (.int .u64 (IntKind.wrap .u64 (Int.tdiv t58.1 (2 : Int)))))] [] (halterref02_signed.R t120) [] ∧ True) ∧ (True ∧ ((True) ∧ ((True) ∧ True) ∧ (.v (.one (.sc (.int .u64 t120))) : Tm) = halterref02_Round.R r ∧ ([] : List Box) = [])))) ∧ ((decide ((IntKind.wrap .u64 (Int.tdiv t58.1 (2 : Int))) < (4503599627370496 : Int))) = false → (True) ∧ (True) ∧ (True) ∧ (((decide ((IntKind.wrap .i64 ((IntKind.wrap .i64 (t58.2 + (1 : Int))) + (1075 : Int))) ≥ (2047 : Int))) = true → (True) ∧ (∃ t122 : Int, (Fun cfg 62 [.one (.sc (.bool a0)), .one (.sc (.int .u64 (9218868437227405312 : Int)))] [] (halterref02_signed.R t122) [] ∧ True) ∧ (True ∧ ((True) ∧ ((True) ∧ True) ∧ (.v (.one (.sc (.int .u64 t122))) : Tm) = halterref02_Round.R r ∧ ([] : List Box) = [])))) ∧ ((decide ((IntKind.wrap .i64 ((IntKind.wrap .i64 (t58.2 + (1 : Int))) + (1075 : Int))) ≥ (2047 : Int))) = false → (True) ∧ (True) ∧ (True) ∧ (True) ∧ (True) ∧ (True) ∧ (True) ∧ (True) ∧ (∃ t123 : Int, (Fun cfg 62 [.one (.sc (.bool a0)), .one (.sc (.int .u64 (IntKind.wrap .u64 ((IntKind.wrap .u64 ((IntKind.wrap .u64 ((IntKind.wrap .u64 ((IntKind.wrap .i64 ((IntKind.wrap .i64 (t58.2 + (1 : Int))) + (1075 : Int))))) * (4503599627370496 : Int))) + (IntKind.wrap .u64 (Int.tdiv t58.1 (2 : Int))))) - (4503599627370496 : Int)))))] [] (halterref02_signed.R t123) [] ∧ True) ∧ (True ∧ ((True) ∧ ((True) ∧ True) ∧ (.v (.one (.sc (.int .u64 t123))) : Tm) = halterref02_Round.R r ∧ ([] : List Box) = [])))))))))) ∧ ((t58.1 == (9007199254740992 : Int)) = false → (True) ∧ (True) ∧ (((t58.1 == (0 : Int)) = true → (True) ∧ (∃ t125 : Int, (Fun cfg 62 [.one (.sc (.bool a0)), .one (.sc (.int .u64 (0 : Int)))] [] (halterref02_signed.R t125) [] ∧ True) ∧ (True ∧ ((True) ∧ ((True) ∧ True) ∧ (.v (.one (.sc (.int .u64 t125))) : Tm) = halterref02_Round.R r ∧ ([] : List Box) = [])))) ∧ ((t58.1 == (0 : Int)) = false → (True) ∧ (True) ∧ (((decide (t58.1 < (4503599627370496 : Int))) = true → (True) ∧ (True) ∧ (∃ t127 : Int, (Fun cfg 62 [.one (.sc (.bool a0)), .one (.sc (.int .u64 t58.1))] [] (halterref02_signed.R t127) [] ∧ True) ∧ (True ∧ ((True) ∧ ((True) ∧ True) ∧ (.v (.one (.sc (.int .u64 t127))) : Tm) = halterref02_Round.R r ∧ ([] : List Box) = [])))) ∧ ((decide (t58.1 < (4503599627370496 : Int))) = false → (True) ∧ (True) ∧ (True) ∧ (((decide ((IntKind.wrap .i64 (t58.2 + (1075 : Int))) ≥ (2047 : Int))) = true → (True) ∧ (∃ t129 : Int, (Fun cfg 62 [.one (.sc (.bool a0)), .one (.sc (.int .u64 (9218868437227405312 : Int)))] [] (halterref02_signed.R t129) [] ∧ True) ∧ (True ∧ ((True) ∧ ((True) ∧ True) ∧ (.v (.one (.sc (.int .u64 t129))) : Tm) = halterref02_Round.R r ∧ ([] : List Box) = [])))) ∧ ((decide ((IntKind.wrap .i64 (t58.2 + (1075 : Int))) ≥ (2047 : Int))) = false → (True) ∧ (True) ∧ (True) ∧ (True) ∧ (True) ∧ (True) ∧ (True) ∧ (True) ∧ (∃ t130 : Int, (Fun cfg 62 [.one (.sc (.bool a0)), .one (.sc (.int .u64 (IntKind.wrap .u64 ((IntKind.wrap .u64 ((IntKind.wrap .u64 ((IntKind.wrap .u64 ((IntKind.wrap .i64 (t58.2 + (1075 : Int))))) * (4503599627370496 : Int))) + t58.1)) - (4503599627370496 : Int)))))] [] (halterref02_signed.R t130) [] ∧ True) ∧ (True ∧ ((True) ∧ ((True) ∧ True) ∧ (.v (.one (.sc (.int .u64 t130))) : Tm) = halterref02_Round.R r ∧ ([] : List Box) = [])))))))))))))))))))))))) (by kernel_rfl) ?_)
  refine ⟨trivial, trivial, ?_⟩
  obtain ⟨t27, ht27, h⟩ := of_bind h
  refine ⟨⟨trivial, trivial⟩, t27, Trip.loop FUEL (halterref02_Round.l0_ok a0 a3 FUEL a1 a2 false a3 t27 ht27), ?_⟩
  refine ⟨trivial, ?_⟩
  obtain ⟨t58, ht58, h⟩ := of_bind h
  refine ⟨⟨trivial, trivial⟩, t58, Trip.loop FUEL (halterref02_Round.l1_ok t27 a0 a3 FUEL t27.1 t27.2.1 t58 ht58), ?_⟩
  refine ⟨fun b68 => ?_, fun b68 => ?_⟩
  · rw [if_pos b68] at h
    refine ⟨b68, ?_⟩
    refine ⟨fun b69 => ?_, fun b69 => ?_⟩
    · rw [if_neg (ff b69)] at h
      refine ⟨b69, ?_⟩
      refine ⟨trivial, ?_⟩
      refine ⟨b69, ?_⟩
      refine ⟨(by decide), ?_⟩
      refine ⟨b69, ?_⟩
      refine ⟨trivial, ?_⟩
      refine ⟨b68, ?_⟩
      refine ⟨b69, ?_⟩
      refine ⟨b68, ?_⟩
      refine ⟨fun b85 => ?_, fun b85 => ?_⟩
      · rw [if_pos (beq_t b85)] at h
        refine ⟨trivial, trivial, trivial, trivial, trivial, ?_⟩
        refine ⟨fun b86 => ?_, fun b86 => ?_⟩
        · rw [if_pos (beq_t b86)] at h
          refine ⟨trivial, ?_⟩
          refine ⟨(by decide), ?_⟩
          refine ⟨trivial, trivial, trivial, trivial, trivial, trivial, ?_⟩
          refine ⟨fun b87 => ?_, fun b87 => ?_⟩
          · rw [if_pos (beq_t b87)] at h
            refine ⟨trivial, ?_⟩
            obtain ⟨t88, ht88, h⟩ := of_bind h
            refine ⟨t88, ⟨halterref02_signed.fun_ ht88, trivial⟩, ?_⟩
            refine ⟨trivial, ?_⟩
            obtain rfl := Option.some.inj h
            exact ⟨trivial, ⟨trivial, trivial⟩, rfl, rfl⟩
          · rw [if_neg (beq_f b87)] at h
            refine ⟨trivial, trivial, ?_⟩
            refine ⟨fun b89 => ?_, fun b89 => ?_⟩
            · rw [if_pos (of_decide_eq_true b89)] at h
              refine ⟨trivial, trivial, ?_⟩
              obtain ⟨t90, ht90, h⟩ := of_bind h
              refine ⟨t90, ⟨halterref02_signed.fun_ ht90, trivial⟩, ?_⟩
              refine ⟨trivial, ?_⟩
              obtain rfl := Option.some.inj h
              exact ⟨trivial, ⟨trivial, trivial⟩, rfl, rfl⟩
            · rw [if_neg (of_decide_eq_false b89)] at h
              refine ⟨trivial, trivial, trivial, ?_⟩
              refine ⟨fun b91 => ?_, fun b91 => ?_⟩
              · rw [if_pos (of_decide_eq_true b91)] at h
                refine ⟨trivial, ?_⟩
                obtain ⟨t92, ht92, h⟩ := of_bind h
                refine ⟨t92, ⟨halterref02_signed.fun_ ht92, trivial⟩, ?_⟩
                refine ⟨trivial, ?_⟩
                obtain rfl := Option.some.inj h
                exact ⟨trivial, ⟨trivial, trivial⟩, rfl, rfl⟩
              · rw [if_neg (of_decide_eq_false b91)] at h
                refine ⟨trivial, trivial, trivial, trivial, trivial, trivial, trivial, trivial, ?_⟩
                obtain ⟨t93, ht93, h⟩ := of_bind h
                refine ⟨t93, ⟨halterref02_signed.fun_ ht93, trivial⟩, ?_⟩
                refine ⟨trivial, ?_⟩
                obtain rfl := Option.some.inj h
                exact ⟨trivial, ⟨trivial, trivial⟩, rfl, rfl⟩
        · rw [if_neg (beq_f b86)] at h
          refine ⟨trivial, trivial, ?_⟩
          refine ⟨fun b94 => ?_, fun b94 => ?_⟩
          · rw [if_pos (beq_t b94)] at h
            refine ⟨trivial, ?_⟩
            obtain ⟨t95, ht95, h⟩ := of_bind h
            refine ⟨t95, ⟨halterref02_signed.fun_ ht95, trivial⟩, ?_⟩
            refine ⟨trivial, ?_⟩
            obtain rfl := Option.some.inj h
            exact ⟨trivial, ⟨trivial, trivial⟩, rfl, rfl⟩
          · rw [if_neg (beq_f b94)] at h
            refine ⟨trivial, trivial, ?_⟩
            refine ⟨fun b96 => ?_, fun b96 => ?_⟩
            · rw [if_pos (of_decide_eq_true b96)] at h
              refine ⟨trivial, trivial, ?_⟩
              obtain ⟨t97, ht97, h⟩ := of_bind h
              refine ⟨t97, ⟨halterref02_signed.fun_ ht97, trivial⟩, ?_⟩
              refine ⟨trivial, ?_⟩
              obtain rfl := Option.some.inj h
              exact ⟨trivial, ⟨trivial, trivial⟩, rfl, rfl⟩
            · rw [if_neg (of_decide_eq_false b96)] at h
              refine ⟨trivial, trivial, trivial, ?_⟩
              refine ⟨fun b98 => ?_, fun b98 => ?_⟩
              · rw [if_pos (of_decide_eq_true b98)] at h
                refine ⟨trivial, ?_⟩
                obtain ⟨t99, ht99, h⟩ := of_bind h
                refine ⟨t99, ⟨halterref02_signed.fun_ ht99, trivial⟩, ?_⟩
                refine ⟨trivial, ?_⟩
                obtain rfl := Option.some.inj h
                exact ⟨trivial, ⟨trivial, trivial⟩, rfl, rfl⟩
              · rw [if_neg (of_decide_eq_false b98)] at h
                refine ⟨trivial, trivial, trivial, trivial, trivial, trivial, trivial, trivial, ?_⟩
                obtain ⟨t100, ht100, h⟩ := of_bind h
                refine ⟨t100, ⟨halterref02_signed.fun_ ht100, trivial⟩, ?_⟩
                refine ⟨trivial, ?_⟩
                obtain rfl := Option.some.inj h
                exact ⟨trivial, ⟨trivial, trivial⟩, rfl, rfl⟩
      · rw [if_neg (beq_f b85)] at h
        refine ⟨trivial, trivial, ?_⟩
        refine ⟨fun b101 => ?_, fun b101 => ?_⟩
        · rw [if_pos (beq_t b101)] at h
          refine ⟨trivial, ?_⟩
          refine ⟨(by decide), ?_⟩
          refine ⟨trivial, trivial, trivial, trivial, trivial, trivial, ?_⟩
          refine ⟨fun b102 => ?_, fun b102 => ?_⟩
          · rw [if_pos (beq_t b102)] at h
            refine ⟨trivial, ?_⟩
            obtain ⟨t103, ht103, h⟩ := of_bind h
            refine ⟨t103, ⟨halterref02_signed.fun_ ht103, trivial⟩, ?_⟩
            refine ⟨trivial, ?_⟩
            obtain rfl := Option.some.inj h
            exact ⟨trivial, ⟨trivial, trivial⟩, rfl, rfl⟩
          · rw [if_neg (beq_f b102)] at h
            refine ⟨trivial, trivial, ?_⟩
            refine ⟨fun b104 => ?_, fun b104 => ?_⟩
            · rw [if_pos (of_decide_eq_true b104)] at h
              refine ⟨trivial, trivial, ?_⟩
              obtain ⟨t105, ht105, h⟩ := of_bind h
              refine ⟨t105, ⟨halterref02_signed.fun_ ht105, trivial⟩, ?_⟩
              refine ⟨trivial, ?_⟩
              obtain rfl := Option.some.inj h
              exact ⟨trivial, ⟨trivial, trivial⟩, rfl, rfl⟩
            · rw [if_neg (of_decide_eq_false b104)] at h
              refine ⟨trivial, trivial, trivial, ?_⟩
              refine ⟨fun b106 => ?_, fun b106 => ?_⟩
              · rw [if_pos (of_decide_eq_true b106)] at h
                refine ⟨trivial, ?_⟩
                obtain ⟨t107, ht107, h⟩ := of_bind h
                refine ⟨t107, ⟨halterref02_signed.fun_ ht107, trivial⟩, ?_⟩
                refine ⟨trivial, ?_⟩
                obtain rfl := Option.some.inj h
                exact ⟨trivial, ⟨trivial, trivial⟩, rfl, rfl⟩
              · rw [if_neg (of_decide_eq_false b106)] at h
                refine ⟨trivial, trivial, trivial, trivial, trivial, trivial, trivial, trivial, ?_⟩
                obtain ⟨t108, ht108, h⟩ := of_bind h
                refine ⟨t108, ⟨halterref02_signed.fun_ ht108, trivial⟩, ?_⟩
                refine ⟨trivial, ?_⟩
                obtain rfl := Option.some.inj h
                exact ⟨trivial, ⟨trivial, trivial⟩, rfl, rfl⟩
        · rw [if_neg (beq_f b101)] at h
          refine ⟨trivial, trivial, ?_⟩
          refine ⟨fun b109 => ?_, fun b109 => ?_⟩
          · rw [if_pos (beq_t b109)] at h
            refine ⟨trivial, ?_⟩
            obtain ⟨t110, ht110, h⟩ := of_bind h
            refine ⟨t110, ⟨halterref02_signed.fun_ ht110, trivial⟩, ?_⟩
            refine ⟨trivial, ?_⟩
            obtain rfl := Option.some.inj h
            exact ⟨trivial, ⟨trivial, trivial⟩, rfl, rfl⟩
          · rw [if_neg (beq_f b109)] at h
            refine ⟨trivial, trivial, ?_⟩
            refine ⟨fun b111 => ?_, fun b111 => ?_⟩
            · rw [if_pos (of_decide_eq_true b111)] at h
              refine ⟨trivial, trivial, ?_⟩
              obtain ⟨t112, ht112, h⟩ := of_bind h
              refine ⟨t112, ⟨halterref02_signed.fun_ ht112, trivial⟩, ?_⟩
              refine ⟨trivial, ?_⟩
              obtain rfl := Option.some.inj h
              exact ⟨trivial, ⟨trivial, trivial⟩, rfl, rfl⟩
            · rw [if_neg (of_decide_eq_false b111)] at h
              refine ⟨trivial, trivial, trivial, ?_⟩
              refine ⟨fun b113 => ?_, fun b113 => ?_⟩
              · rw [if_pos (of_decide_eq_true b113)] at h
                refine ⟨trivial, ?_⟩
                obtain ⟨t114, ht114, h⟩ := of_bind h
                refine ⟨t114, ⟨halterref02_signed.fun_ ht114, trivial⟩, ?_⟩
                refine ⟨trivial, ?_⟩
                obtain rfl := Option.some.inj h
                exact ⟨trivial, ⟨trivial, trivial⟩, rfl, rfl⟩
              · rw [if_neg (of_decide_eq_false b113)] at h
                refine ⟨trivial, trivial, trivial, trivial, trivial, trivial, trivial, trivial, ?_⟩
                obtain ⟨t115, ht115, h⟩ := of_bind h
                refine ⟨t115, ⟨halterref02_signed.fun_ ht115, trivial⟩, ?_⟩
                refine ⟨trivial, ?_⟩
                obtain rfl := Option.some.inj h
                exact ⟨trivial, ⟨trivial, trivial⟩, rfl, rfl⟩
    · rw [if_pos b69] at h
      refine ⟨b69, ?_⟩
      refine ⟨b69, ?_⟩
      refine ⟨b69, ?_⟩
      refine ⟨b68, ?_⟩
      refine ⟨b69, ?_⟩
      refine ⟨b68, ?_⟩
      refine ⟨rfl, trivial, trivial, trivial, trivial, trivial, ?_⟩
      refine ⟨fun b70 => ?_, fun b70 => ?_⟩
      · rw [if_pos (beq_t b70)] at h
        refine ⟨trivial, ?_⟩
        refine ⟨(by decide), ?_⟩
        refine ⟨trivial, trivial, trivial, trivial, trivial, trivial, ?_⟩
        refine ⟨fun b71 => ?_, fun b71 => ?_⟩
        · rw [if_pos (beq_t b71)] at h
          refine ⟨trivial, ?_⟩
          obtain ⟨t72, ht72, h⟩ := of_bind h
          refine ⟨t72, ⟨halterref02_signed.fun_ ht72, trivial⟩, ?_⟩
          refine ⟨trivial, ?_⟩
          obtain rfl := Option.some.inj h
          exact ⟨trivial, ⟨trivial, trivial⟩, rfl, rfl⟩
        · rw [if_neg (beq_f b71)] at h
          refine ⟨trivial, trivial, ?_⟩
          refine ⟨fun b73 => ?_, fun b73 => ?_⟩
          · rw [if_pos (of_decide_eq_true b73)] at h
            refine ⟨trivial, trivial, ?_⟩
            obtain ⟨t74, ht74, h⟩ := of_bind h
            refine ⟨t74, ⟨halterref02_signed.fun_ ht74, trivial⟩, ?_⟩
            refine ⟨trivial, ?_⟩
            obtain rfl := Option.some.inj h
            exact ⟨trivial, ⟨trivial, trivial⟩, rfl, rfl⟩
          · rw [if_neg (of_decide_eq_false b73)] at h
            refine ⟨trivial, trivial, trivial, ?_⟩
            refine ⟨fun b75 => ?_, fun b75 => ?_⟩
            · rw [if_pos (of_decide_eq_true b75)] at h
              refine ⟨trivial, ?_⟩
              obtain ⟨t76, ht76, h⟩ := of_bind h
              refine ⟨t76, ⟨halterref02_signed.fun_ ht76, trivial⟩, ?_⟩
              refine ⟨trivial, ?_⟩
              obtain rfl := Option.some.inj h
              exact ⟨trivial, ⟨trivial, trivial⟩, rfl, rfl⟩
            · rw [if_neg (of_decide_eq_false b75)] at h
              refine ⟨trivial, trivial, trivial, trivial, trivial, trivial, trivial, trivial, ?_⟩
              obtain ⟨t77, ht77, h⟩ := of_bind h
              refine ⟨t77, ⟨halterref02_signed.fun_ ht77, trivial⟩, ?_⟩
              refine ⟨trivial, ?_⟩
              obtain rfl := Option.some.inj h
              exact ⟨trivial, ⟨trivial, trivial⟩, rfl, rfl⟩
      · rw [if_neg (beq_f b70)] at h
        refine ⟨trivial, trivial, ?_⟩
        refine ⟨fun b78 => ?_, fun b78 => ?_⟩
        · rw [if_pos (beq_t b78)] at h
          refine ⟨trivial, ?_⟩
          obtain ⟨t79, ht79, h⟩ := of_bind h
          refine ⟨t79, ⟨halterref02_signed.fun_ ht79, trivial⟩, ?_⟩
          refine ⟨trivial, ?_⟩
          obtain rfl := Option.some.inj h
          exact ⟨trivial, ⟨trivial, trivial⟩, rfl, rfl⟩
        · rw [if_neg (beq_f b78)] at h
          refine ⟨trivial, trivial, ?_⟩
          refine ⟨fun b80 => ?_, fun b80 => ?_⟩
          · rw [if_pos (of_decide_eq_true b80)] at h
            refine ⟨trivial, trivial, ?_⟩
            obtain ⟨t81, ht81, h⟩ := of_bind h
            refine ⟨t81, ⟨halterref02_signed.fun_ ht81, trivial⟩, ?_⟩
            refine ⟨trivial, ?_⟩
            obtain rfl := Option.some.inj h
            exact ⟨trivial, ⟨trivial, trivial⟩, rfl, rfl⟩
          · rw [if_neg (of_decide_eq_false b80)] at h
            refine ⟨trivial, trivial, trivial, ?_⟩
            refine ⟨fun b82 => ?_, fun b82 => ?_⟩
            · rw [if_pos (of_decide_eq_true b82)] at h
              refine ⟨trivial, ?_⟩
              obtain ⟨t83, ht83, h⟩ := of_bind h
              refine ⟨t83, ⟨halterref02_signed.fun_ ht83, trivial⟩, ?_⟩
              refine ⟨trivial, ?_⟩
              obtain rfl := Option.some.inj h
              exact ⟨trivial, ⟨trivial, trivial⟩, rfl, rfl⟩
            · rw [if_neg (of_decide_eq_false b82)] at h
              refine ⟨trivial, trivial, trivial, trivial, trivial, trivial, trivial, trivial, ?_⟩
              obtain ⟨t84, ht84, h⟩ := of_bind h
              refine ⟨t84, ⟨halterref02_signed.fun_ ht84, trivial⟩, ?_⟩
              refine ⟨trivial, ?_⟩
              obtain rfl := Option.some.inj h
              exact ⟨trivial, ⟨trivial, trivial⟩, rfl, rfl⟩
  · rw [if_neg (ff b68)] at h
    refine ⟨b68, ?_⟩
    refine ⟨b68, ?_⟩
    refine ⟨b68, ?_⟩
    refine ⟨rfl, trivial, trivial, ?_⟩
    refine ⟨fun b116 => ?_, fun b116 => ?_⟩
    · rw [if_pos (beq_t b116)] at h
      refine ⟨trivial, ?_⟩
      refine ⟨(by decide), ?_⟩
      refine ⟨trivial, trivial, trivial, trivial, trivial, trivial, ?_⟩
      refine ⟨fun b117 => ?_, fun b117 => ?_⟩
      · rw [if_pos (beq_t b117)] at h
        refine ⟨trivial, ?_⟩
        obtain ⟨t118, ht118, h⟩ := of_bind h
        refine ⟨t118, ⟨halterref02_signed.fun_ ht118, trivial⟩, ?_⟩
        refine ⟨trivial, ?_⟩
        obtain rfl := Option.some.inj h
        exact ⟨trivial, ⟨trivial, trivial⟩, rfl, rfl⟩
      · rw [if_neg (beq_f b117)] at h
        refine ⟨trivial, trivial, ?_⟩
        refine ⟨fun b119 => ?_, fun b119 => ?_⟩
        · rw [if_pos (of_decide_eq_true b119)] at h
          refine ⟨trivial, trivial, ?_⟩
          obtain ⟨t120, ht120, h⟩ := of_bind h
          refine ⟨t120, ⟨halterref02_signed.fun_ ht120, trivial⟩, ?_⟩
          refine ⟨trivial, ?_⟩
          obtain rfl := Option.some.inj h
          exact ⟨trivial, ⟨trivial, trivial⟩, rfl, rfl⟩
        · rw [if_neg (of_decide_eq_false b119)] at h
          refine ⟨trivial, trivial, trivial, ?_⟩
          refine ⟨fun b121 => ?_, fun b121 => ?_⟩
          · rw [if_pos (of_decide_eq_true b121)] at h
            refine ⟨trivial, ?_⟩
            obtain ⟨t122, ht122, h⟩ := of_bind h
            refine ⟨t122, ⟨halterref02_signed.fun_ ht122, trivial⟩, ?_⟩
            refine ⟨trivial, ?_⟩
            obtain rfl := Option.some.inj h
            exact ⟨trivial, ⟨trivial, trivial⟩, rfl, rfl⟩
          · rw [if_neg (of_decide_eq_false b121)] at h
            refine ⟨trivial, trivial, trivial, trivial, trivial, trivial, trivial, trivial, ?_⟩
            obtain ⟨t123, ht123, h⟩ := of_bind h
            refine ⟨t123, ⟨halterref02_signed.fun_ ht123, trivial⟩, ?_⟩
            refine ⟨trivial, ?_⟩
            obtain rfl := Option.some.inj h
            exact ⟨trivial, ⟨trivial, trivial⟩, rfl, rfl⟩
    · rw [if_neg (beq_f b116)] at h
      refine ⟨trivial, trivial, ?_⟩
      refine ⟨fun b124 => ?_, fun b124 => ?_⟩
      · rw [if_pos (beq_t b124)] at h
        refine ⟨trivial, ?_⟩
        obtain ⟨t125, ht125, h⟩ := of_bind h
        refine ⟨t125, ⟨halterref02_signed.fun_ ht125, trivial⟩, ?_⟩
        refine ⟨trivial, ?_⟩
        obtain rfl := Option.some.inj h
        exact ⟨trivial, ⟨trivial, trivial⟩, rfl, rfl⟩
      · rw [if_neg (beq_f b124)] at h
        refine ⟨trivial, trivial, ?_⟩
        refine ⟨fun b126 => ?_, fun b126 => ?_⟩
        · rw [if_pos (of_decide_eq_true b126)] at h
          refine ⟨trivial, trivial, ?_⟩
          obtain ⟨t127, ht127, h⟩ := of_bind h
          refine ⟨t127, ⟨halterref02_signed.fun_ ht127, trivial⟩, ?_⟩
          refine ⟨trivial, ?_⟩
          obtain rfl := Option.some.inj h
          exact ⟨trivial, ⟨trivial, trivial⟩, rfl, rfl⟩
        · rw [if_neg (of_decide_eq_false b126)] at h
          refine ⟨trivial, trivial, trivial, ?_⟩
          refine ⟨fun b128 => ?_, fun b128 => ?_⟩
          · rw [if_pos (of_decide_eq_true b128)] at h
            refine ⟨trivial, ?_⟩
            obtain ⟨t129, ht129, h⟩ := of_bind h
            refine ⟨t129, ⟨halterref02_signed.fun_ ht129, trivial⟩, ?_⟩
            refine ⟨trivial, ?_⟩
            obtain rfl := Option.some.inj h
            exact ⟨trivial, ⟨trivial, trivial⟩, rfl, rfl⟩
          · rw [if_neg (of_decide_eq_false b128)] at h
            refine ⟨trivial, trivial, trivial, trivial, trivial, trivial, trivial, trivial, ?_⟩
            obtain ⟨t130, ht130, h⟩ := of_bind h
            refine ⟨t130, ⟨halterref02_signed.fun_ ht130, trivial⟩, ?_⟩
            refine ⟨trivial, ?_⟩
            obtain rfl := Option.some.inj h
            exact ⟨trivial, ⟨trivial, trivial⟩, rfl, rfl⟩
/-! halter/halterref02.Add -/
def halterref02_Add.l0 (t12 : Bool × Int × Int × Bool) (t13 : Bool × Int × Int × Bool) : Nat → Int → Int → Int → Int → Bool → Option (TY0)
  | 0, _, _, _, _, _ => none
  | n + 1, x43, x44, x45, x46, x47 =>
    if x46 < x44 then
      if x45 > (0 : Int) then
        if x43 < (2305843009213693952 : Int) then
          halterref02_Add.l0 t12 t13 n (IntKind.wrap .u64 ((2 : Int) * x43)) (IntKind.wrap .i64 (x44 - (1 : Int))) x45 x46 x47
        else
          if x47 = true then
            if (IntKind.wrap .u64 (Int.tdiv x45 (2 : Int))) = (0 : Int) then
              some (x43, x44, (IntKind.wrap .u64 (Int.tdiv x45 (2 : Int))), (IntKind.wrap .i64 (x46 + (1 : Int))), true)
            else
              halterref02_Add.l0 t12 t13 n x43 x44 (IntKind.wrap .u64 (Int.tdiv x45 (2 : Int))) (IntKind.wrap .i64 (x46 + (1 : Int))) true
          else
            if (IntKind.wrap .u64 (Int.tdiv x45 (2 : Int))) = (0 : Int) then
              some (x43, x44, (IntKind.wrap .u64 (Int.tdiv x45 (2 : Int))), (IntKind.wrap .i64 (x46 + (1 : Int))), ((Int.tmod x45 (2 : Int)) == (1 : Int)))
            else
              halterref02_Add.l0 t12 t13 n x43 x44 (IntKind.wrap .u64 (Int.tdiv x45 (2 : Int))) (IntKind.wrap .i64 (x46 + (1 : Int))) ((Int.tmod x45 (2 : Int)) == (1 : Int))
      else
        if x47 = true then
          if x43 < (2305843009213693952 : Int) then
            halterref02_Add.l0 t12 t13 n (IntKind.wrap .u64 ((2 : Int) * x43)) (IntKind.wrap .i64 (x44 - (1 : Int))) x45 x46 x47
          else
            if (IntKind.wrap .u64 (Int.tdiv x45 (2 : Int))) = (0 : Int) then
              some (x43, x44, (IntKind.wrap .u64 (Int.tdiv x45 (2 : Int))), (IntKind.wrap .i64 (x46 + (1 : Int))), true)
            else
              halterref02_Add.l0 t12 t13 n x43 x44 (IntKind.wrap .u64 (Int.tdiv x45 (2 : Int))) (IntKind.wrap .i64 (x46 + (1 : Int))) true
        else
          some (x43, x44, x45, x46, x47)
    else
      some (x43, x44, x45, x46, x47)
def halterref02_Add.l0_S (t12 : Bool × Int × Int × Bool) (t13 : Bool × Int × Int × Bool) (x43 : Int) (x44 : Int) (x45 : Int) (x46 : Int) (x47 : Bool) : St := ⟨[.any, .any, .any, .any, .any, .v (.one (.ptr 0 ⟨0, 0, 0, 0⟩)), .v (.one (.ptr 1 ⟨0, 0, 0, 0⟩)), .v (.one (.sc (.bool x47))), .any, .any, .any, .any, .any, .any, .any, .any, .any, .any, .any, .any, .any, .any, .any, .any, .any, .any, .any, .any, .any, .any, .any, .any, .any, .any, .any, .any, .any, .any, .any, .any, .any, .any, .any, .any, .any, .any, .any, .any, .any, .any, .any, .any, .any, .any, .any, .any, .any, .any, .any, .any, .any, .any, .any, .any, .any, .any, .any, .any, .any, .any, .any, .any, .any, .any, .any, .any, .any, .any, .any, .any, .any, .any, .any, .any, .any, .any, .any, .any, .any, .any, .any, .any, .any, .any, .any, .any, .any, .any, .any, .any, .any, .any, .any, .any, .any, .any, .any, .any, .any, .any, .any, .any, .any, .any, .any, .any, .any, .any, .any, .any, .any, .any, .any, .any, .any, .any, .any, .any, .any, .any, .any, .any, .any, .any, .any, .any, .any, .any, .any, .any, .any, .any, .any, .any, .any, .any, .any, .any, .any, .any, .any, .any, .any, .any, .any, .any, .any, .any, .any, .any, .any, .any, .any, .any, .any, .any, .any, .any, .any, .any, .any, .any, .any, .any, .any, .any, .any, .any, .any, .any, .any, .any, .any, .any, .any, .any, .any, .any, .any, .any, .any], [.ex false [.c (.sc (.bool t13.1)), .c (.sc (.int .u64 x43)), .c (.sc (.int .i64 x44)), .c (.sc (.bool t13.2.2.2))] 93, .ex false [.c (.sc (.bool t12.1)), .c (.sc (.int .u64 x45)), .c (.sc (.int .i64 x46)), .c (.sc (.bool t12.2.2.2))] 93], 0⟩
def halterref02_Add.l0_Q (t12 : Bool × Int × Int × Bool) (t13 : Bool × Int × Int × Bool) (t : TY0) : Exit → St → Prop := fun e s => e = (.exit 0) ∧ s = ⟨[.any, .any, .any, .any, .any, .v (.one (.ptr 0 ⟨0, 0, 0, 0⟩)), .v (.one (.ptr 1 ⟨0, 0, 0, 0⟩)), .v (.one (.sc (.bool t.2.2.2.2))), .any, .any, .any, .any, .any, .any, .any, .any, .any, .any, .any, .any, .any, .any, .any, .any, .any, .any, .any, .any, .any, .any, .any, .any, .any, .any, .any, .any, .any, .any, .any, .any, .any, .any, .any, .any, .any, .any, .any, .any, .any, .any, .any, .any, .any, .any, .any, .any, .any, .any, .any, .any, .any, .any, .any, .any, .any, .any, .any, .any, .any, .any, .any, .any, .any, .any, .any, .any, .any, .any, .any, .any, .any, .any, .any, .any, .any, .any, .any, .any, .any, .any, .any, .any, .any, .any, .any, .any, .any, .any, .any, .any, .any, .any, .any, .any, .any, .any, .any, .any, .any, .any, .any, .any, .any, .any, .any, .any, .any, .any, .any, .any, .any, .any, .any, .any, .any, .any, .any, .any, .any, .any, .any, .any, .any, .any, .any, .any, .any, .any, .any, .any, .any, .any, .any, .any, .any, .any, .any, .any, .any, .any, .any, .any, .any, .any, .any, .any, .any, .any, .any, .any, .any, .any, .any, .any, .any, .any, .any, .any, .any, .any, .any, .any, .any, .any, .any, .any, .any, .any, .any, .any, .any, .any, .any, .any, .any, .any, .any, .any, .any, .any, .any], [.ex false [.c (.sc (.bool t13.1)), .c (.sc (.int .u64 t.1)), .c (.sc (.int .i64 t.2.1)), .c (.sc (.bool t13.2.2.2))] 93, .ex false [.c (.sc (.bool t12.1)), .c (.sc (.int .u64 t.2.2.1)), .c (.sc (.int .i64 t.2.2.2.1)), .c (.sc (.bool t12.2.2.2))] 93], 0⟩
theorem halterref02_Add.l0_ok (t12 : Bool × Int × Int × Bool) (t13 : Bool × Int × Int × Bool) : ∀ (n : Nat) (x43 : Int) (x44 : Int) (x45 : Int) (x46 : Int) (x47 : Bool) (r : TY0), halterref02_Add.l0 t12 t13 n x43 x44 x45 x46 x47 = some r → TripN cfg (cpath (Tryd.f35.body.getD .skip) [1, 1, 1, 1, 1, 1, 1, 1, 1, 1, 1, 1, 0, 0, 0]) n (halterref02_Add.l0_S t12 t13 x43 x44 x45 x46 x47) (halterref02_Add.l0_Q t12 t13 r) := by
  intro n
  induction n with
  | zero => intro x43 x44 x45 x46 x47 r h; cases h
  | succ n ih =>
    intro x43 x44 x45 x46 x47 r h
    rw [halterref02_Add.l0] at h
    refine TripN.of_run cfg_ok (k := (.br (oT 3 (.br (oT 4 (.br (aE 2 (.adj [.keep [5, 6, 7], .drop 2] .nil)) (.br (oT 4 (.br (.adj [.keep [5, 6, 7], .drop 2] .nil) (.adj [] (.adj [.keep [5, 6, 7], .drop 2] .nil)))) (oF 4 (.br (.adj [.keep [5, 6, 7], .drop 2] .nil) (.adj [] (.adj [.keep [5, 6, 7], .drop 2] .nil))))))) (.one true (.one false (.one true (.br (.br (aE 2 (.adj [.keep [5, 6, 7], .drop 2] .nil)) (oT 5 (.br (.adj [.keep [5, 6, 7], .drop 2] .nil) (.adj [] (.adj [.keep [5, 6, 7], .drop 2] .nil))))) (.adj [.keep [5, 6, 7], .drop 2] .nil))))))) (oF 6 (.adj [.keep [5, 6, 7], .drop 2] .nil)))) (to_goal (q := (True) ∧ (True) ∧ (True) ∧ (((decide (x46 < x44)) = true → ((decide (x46 < x44)) = true ∧ (True) ∧ ((decide (x46 < x44)) = true ∧ (True) ∧ ((decide (x46 < x44)) = true ∧ (((decide (x45 > (0 : Int))) = false → ((decide (x46 < x44)) = true ∧ ((decide (x45 > (0 : Int))) = false ∧ ((decide (x46 < x44)) = true ∧ ((x47 = true → (True) ∧ (True) ∧ (((decide (x43 < (2305843009213693952 : Int))) = true → (True ∧ (True) ∧ (True) ∧ (True) ∧ (True) ∧ (True) ∧ (True) ∧ (True ∧ (((True) ∧ (True) ∧ True) ∧ TripN cfg (cpath (Tryd.f35.body.getD .skip) [1, 1, 1, 1, 1, 1, 1, 1, 1, 1, 1, 1, 0, 0, 0]) n (halterref02_Add.l0_S t12 t13 (IntKind.wrap .u64 ((2 : Int) * x43)) (IntKind.wrap .i64 (x44 - (1 : Int))) x45 x46 x47) (halterref02_Add.l0_Q t12 t13 r))))) ∧ ((decide (x43 < (2305843009213693952 : Int))) = false → (x47 = true ∧ (x47 = true ∧ (x47 = true ∧ (x47 = true ∧ (x47 = true ∧ (True) ∧ ((2 : Int) ≠ 0) ∧ (True) ∧ (True) ∧ (True) ∧ (True) ∧ (True) ∧ (True) ∧ ((((IntKind.wrap .u64 (Int.tdiv x45 (2 : Int))) == (0 : Int)) = true → (((True) ∧ (True) ∧ True) ∧ halterref02_Add.l0_Q t12 t13 r (.exit 0) ⟨[.any, .any, .any, .any, .any, .v (.one (.ptr 0 ⟨0, 0, 0, 0⟩)), .v (.one (.ptr 1 ⟨0, 0, 0, 0⟩)), .v (.one (.sc (.bool true))), .any, .any, .any, .any, .any, .any, .any, .any, .any, .any, .any, .any, .any, .any, .any, .any, .any, .any, .any, .any, .any, .any, .any, .any, .any, .any, .any, .any, .any, .any, .any, .any, .any, .any, .any, .any, .any, .any, .any, .any, .any, .any, .any, .any, .any, .any, .any, .any, .any, .any, .any, .any, .any, .any, .any, .any, .any, .any, .any, .any, .any, .any, .any, .any, .any, .any, .any, .any, .any, .any, .any, .any, .any, .any, .any, .any, .any, .any, .any, .any, .any, .any, .any, .any, .any, .any, .any, .any, .any, .any, .any, .any, .any, .any, .any, .any, .any, .any, .any, .any, .any, .any, .any, .any, .any, .any, .any, .any, .any, .any, .any, .any, .any, .any, .any, .any, .any, .any, .any, .any, .any, .any, .any, .any, .any, .any, .any, .any, .any, .any, .any, .any, .any, .any, .any, .any, .any, .any, .any, .any, .any, .any, .any, .any, .any, .any, .any, .any, .any, .any, .any, .any, .any, .any, .any, .any, .any, .any, .any, .any, .any, .any, .any, .any, .any, .any, .any, .any, .any, .any, .any, .any, .any, .any, .any, .any, .any, .any, .any, .any, .any, .any, .any], [.ex false [.c (.sc (.bool t13.1)), .c (.sc (.int .u64 x43)), .c (.sc (.int .i64 x44)), .c (.sc (.bool (z3 t13)))] 93, .ex false [.c (.sc (.bool t12.1)), .c (.sc (.int .u64 (IntKind.wrap .u64 (Int.tdiv x45 (2 : Int))))), .c (.sc (.int .i64 (IntKind.wrap .i64 (x46 + (1 : Int))))), .c (.sc (.bool (z3 t12)))] 93], 0⟩)) ∧ (((IntKind.wrap .u64 (Int.tdiv x45 (2 : Int))) == (0 : Int)) = false → (True ∧ (((True) ∧ (True) ∧ True) ∧ TripN cfg (cpath (Tryd.f35.body.getD .skip) [1, 1, 1, 1, 1, 1, 1, 1, 1, 1, 1, 1, 0, 0, 0]) n (halterref02_Add.l0_S t12 t13 x43 x44 (IntKind.wrap .u64 (Int.tdiv x45 (2 : Int))) (IntKind.wrap .i64 (x46 + (1 : Int))) true) (halterref02_Add.l0_Q t12 t13 r))))))))))))) ∧ (x47 = false → (((True) ∧ (True) ∧ True) ∧ halterref02_Add.l0_Q t12 t13 r (.exit 0) ⟨[.any, .any, .any, .any, .any, .v (.one (.ptr 0 ⟨0, 0, 0, 0⟩)), .v (.one (.ptr 1 ⟨0, 0, 0, 0⟩)), .v (.one (.sc (.bool x47))), .any, .any, .any, .any, .any, .any, .any, .any, .any, .any, .any, .any, .any, .any, .any, .any, .any, .any, .any, .any, .any, .any, .any, .any, .any, .any, .any, .any, .any, .any, .any, .any, .any, .any, .any, .any, .any, .any, .any, .any, .any, .any, .any, .any, .any, .any, .any, .any, .any, .any, .any, .any, .any, .any, .any, .any, .any, .any, .any, .any, .any, .any, .any, .any, .any, .any, .any, .any, .any, .any, .any, .any, .any, .any, .any, .any, .any, .any, .any, .any, .any, .any, .any, .any, .any, .any, .any, .any, .any, .any, .any, .any, .any, .any, .any, .any, .any, .any, .any, .any, .any, .any, .any, .any, .any, .any, .any, .any, .any, .any, .any, .any, .any, .any, .any, .any, .any, .any, .any, .any, .any, .any, .any, .any, .any, .any, .any, .any, .any, .any, .any, .any, .any, .any, .any, .any, .any, .any, .any, .any, .any, .any, .any, .any, .any, .any, .any, .any, .any, .any, .any, .any, .any, .any, .any, .any, .any, .any, .any, .any, .any, .any, .any, .any, .any, .any, .any, .any, .any, .any, .any, .any, .any, .any, .any, .any, .any, .any, .any, .any, .any, .any, .any], [.ex false [.c (.sc (.bool t13.1)), .c (.sc (.int .u64 x43)), .c (.sc (.int .i64 x44)), .c (.sc (.bool (z3 t13)))] 93, .ex false [.c (.sc (.bool t12.1)), .c (.sc (.int .u64 x45)), .c (.sc (.int .i64 x46)), .c (.sc (.bool (z3 t12)))] 93], 0⟩))))))) ∧ ((decide (x45 > (0 : Int))) = true → ((decide (x46 < x44)) = true ∧ ((decide (x45 > (0 : Int))) = true ∧ ((decide (x46 < x44)) = true ∧ (true = true ∧ (True) ∧ (True) ∧ (((decide (x43 < (2305843009213693952 : Int))) = true → (True ∧ (True) ∧ (True) ∧ (True) ∧ (True) ∧ (True) ∧ (True) ∧ (True ∧ (((True) ∧ (True) ∧ True) ∧ TripN cfg (cpath (Tryd.f35.body.getD .skip) [1, 1, 1, 1, 1, 1, 1, 1, 1, 1, 1, 1, 0, 0, 0]) n (halterref02_Add.l0_S t12 t13 (IntKind.wrap .u64 ((2 : Int) * x43)) (IntKind.wrap .i64 (x44 - (1 : Int))) x45 x46 x47) (halterref02_Add.l0_Q t12 t13 r))))) ∧ ((decide (x43 < (2305843009213693952 : Int))) = false → ((x47 = false → (x47 = false ∧ (True) ∧ (x47 = false ∧ ((2 : Int) ≠ 0) ∧ (x47 = false ∧ (True) ∧ (x47 = false ∧ (True) ∧ ((2 : Int) ≠ 0) ∧ (True) ∧ (True) ∧ (True) ∧ (True) ∧ (True) ∧ (True) ∧ ((((IntKind.wrap .u64 (Int.tdiv x45 (2 : Int))) == (0 : Int)) = true → (((True) ∧ (True) ∧ True) ∧ halterref02_Add.l0_Q t12 t13 r (.exit 0) ⟨[.any, .any, .any, .any, .any, .v (.one (.ptr 0 ⟨0, 0, 0, 0⟩)), .v (.one (.ptr 1 ⟨0, 0, 0, 0⟩)), .v (.one (.sc (.bool ((Int.tmod x45 (2 : Int)) == (1 : Int))))), .any, .any, .any, .any, .any, .any, .any, .any, .any, .any, .any, .any, .any, .any, .any, .any, .any, .any, .any, .any, .any, .any, .any, .any, .any, .any, .any, .any, .any, .any, .any, .any, .any, .any, .any, .any, .any, .any, .any, .any, .any, .any, .any, .any, .any, .any, .any, .any, .any, .any, .any, .any, .any, .any, .any, .any, .any, .any, .any, .any, .any, .any, .any, .any, .any, .any, .any, .any, .any, .any, .any, .any, .any, .any, .any, .any, .any, .any, .any, .any, .any, .any, .any, .any, .any, .any, .any, .any, .any, .any, .any, .any, .any, .any, .any, .any, .any, .any, .any, .any, .any, .any, .any, .any, .any, .any, .any, .any, .any, .any, .any, .any, .any, .any, .any, .any, .any, .any, .any, .any, .any, .any, .any, .any, .any, .any, .any, .any, .any, .any, .any, .any, .any, .any, .any, .any, .any, .any, .any, .any, .any, .any, .any, .any, .any, .any, .any, .any, .any, .any, .any, .any, .any, .any, .any, .any, .any, .any, .any, .any, .any, .any, .any, .any, .any, .any, .any, .any, .any, .any, .any, .any, .any, .any, .any, .any, .any, .any, .any, .any, .any, .any, .any], [.ex false [.c (.sc (.bool t13.1)), .c (.sc (.int .u64 x43)), .c (.sc (.int .i64 x44)), .c (.sc (.bool (z3 t13)))] 93, .ex false [.c (.sc (.bool t12.1)), .c (.sc (.int .u64 (IntKind.wrap .u64 (Int.tdiv x45 (2 : Int))))), .c (.sc (.int .i64 (IntKind.wrap .i64 (x46 + (1 : Int))))), .c (.sc (.bool (z3 t12)))] 93], 0⟩)) ∧ (((IntKind.wrap .u64 (Int.tdiv x45 (2 : Int))) == (0 : Int)) = false → (True ∧ (((True) ∧ (True) ∧ True) ∧ TripN cfg (cpath (Tryd.f35.body.getD .skip) [1, 1, 1, 1, 1, 1, 1, 1, 1, 1, 1, 1, 0, 0, 0]) n (halterref02_Add.l0_S t12 t13 x43 x44 (IntKind.wrap .u64 (Int.tdiv x45 (2 : Int))) (IntKind.wrap .i64 (x46 + (1 : Int))) ((Int.tmod x45 (2 : Int)) == (1 : Int))) (halterref02_Add.l0_Q t12 t13 r)))))))))) ∧ (x47 = true → (x47 = true ∧ (x47 = true ∧ (x47 = true ∧ (x47 = true ∧ (True) ∧ ((2 : Int) ≠ 0) ∧ (True) ∧ (True) ∧ (True) ∧ (True) ∧ (True) ∧ (True) ∧ ((((IntKind.wrap .u64 (Int.tdiv x45 (2 : Int))) == (0 : Int)) = true → (((True) ∧ (True) ∧ True) ∧ halterref02_Add.l0_Q t12 t13 r (.exit 0) ⟨[.any, .any, .any, .any, .any, .v (.one (.ptr 0 ⟨0, 0, 0, 0⟩)), .v (.one (.ptr 1 ⟨0, 0, 0, 0⟩)), .v (.one (.sc (.bool true))), .any, .any, .any, .any, .any, .any, .any, .any, .any, .any, .any, .any, .any, .any, .any, .any, .any, .any, .any, .any, .any, .any, .any, .any, .any, .any, .any, .any, .any, .any, .any, .any, .any, .any, .any, .any, .any, .any, .any, .any, .any, .any, .any, .any, .any, .any, .any, .any, .any, .any, .any, .any, .any, .any, .any, .any, .any, .any, .any, .any, .any, .any, .any, .any, .any, .any, .any, .any, .any, .any, .any, .any, .any, .any, .any, .any, .any, .any, .any, .any, .any, .any, .any, .any, .any, .any, .any, .any, .any, .any, .any, .any, .any, .any, .any, .any, .any, .any, .any, .any, .any, .any, .any, .any, .any, .any, .any, .any, .any, .any, .any, .any, .any, .any, .any, .any, .any, .any, .any, .any, .any, .any, .any, .any, .any, .any, .any, .any, .any, .any, .any, .any, .any, .any, .any, .any, .any, .any, .any, .any, .any, .any, .any, .any, .any, .any, .any, .any, .any, .any, .any, .any, .any, .any, .any, .any, .any, .any, .any, .any, .any, .any, .any, .any, .any, .any, .any, .any, .any, .any, .any, .any, .any, .any, .any, .any, .any, .any, .any, .any, .any, .any, .any], [.ex false [.c (.sc (.bool t13.1)), .c (.sc (.int .u64 x43)), .c (.sc (.int .i64 x44)), .c (.sc (.bool (z3 t13)))] 93, .ex false [.c (.sc (.bool t12.1)), .c (.sc (.int .u64 (IntKind.wrap .u64 (Int.tdiv x45 (2 : Int))))), .c (.sc (.int .i64 (IntKind.wrap .i64 (x46 + (1 : Int))))), .c (.sc (.bool (z3 t12)))] 93], 0⟩)) ∧ (((IntKind.wrap .u64 (Int.tdiv x45 (2 : Int))) == (0 : Int)) = false → (True ∧ (((True) ∧ (True) ∧ True) ∧ TripN cfg (cpath (Tryd.f35.body.getD .skip) [1, 1, 1, 1, 1, 1, 1, 1, 1, 1, 1, 1, 0, 0, 0]) n (halterref02_Add.l0_S t12 t13 x43 x44 (IntKind.wrap .u64 (Int.tdiv x45 (2 : Int))) (IntKind.wrap .i64 (x46 + (1 : Int))) true) (halterref02_Add.l0_Q t12 t13 r))))))))))))))))))))))) ∧ ((decide (x46 < x44)) = false → ((decide (x46 < x44)) = false ∧ ((decide (x46 < x44)) = false ∧ ((decide (x46 < x44)) = false ∧ ((decide (x46 < x44)) = false ∧ ((decide (x46 < x44)) = false ∧ (false = false ∧ (((True) ∧ (True) ∧ True) ∧ halterref02_Add.l0_Q t12 t13 r (.exit 0) ⟨[.any, .any, .any, .any, .any, .v (.one (.ptr 0 ⟨0, 0, 0, 0⟩)), .v (.one (.ptr 1 ⟨0, 0, 0, 0⟩)), .v (.one (.sc (.bool x47))), .any, .any, .any, .any, .any, .any, .any, .any, .any, .any, .any, .any, .any, .any, .any, .any, .any, .any, .any, .any, .any, .any, .any, .any, .any, .any, .any, .any, .any, .any, .any, .any, .any, .any, .any, .any, .any, .any, .any, .any, .any, .any, .any, .any, .any, .any, .any, .any, .any, .any, .any, .any, .any, .any, .any, .any, .any, .any, .any, .any, .any, .any, .any, .any, .any, .any, .any, .any, .any, .any, .any, .any, .any, .any, .any, .any, .any, .any, .any, .any, .any, .any, .any, .any, .any, .any, .any, .any, .any, .any, .any, .any, .any, .any, .any, .any, .any, .any, .any, .any, .any, .any, .any, .any, .any, .any, .any, .any, .any, .any, .any, .any, .any, .any, .any, .any, .any, .any, .any, .any, .any, .any, .any, .any, .any, .any, .any, .any, .any, .any, .any, .any, .any, .any, .any, .any, .any, .any, .any, .any, .any, .any, .any, .any, .any, .any, .any, .any, .any, .any, .any, .any, .any, .any, .any, .any, .any, .any, .any, .any, .any, .any, .any, .any, .any, .any, .any, .any, .any, .any, .any, .any, .any, .any, .any, .any, .any, .any, .any, .any, .any, .any, .any], [.ex false [.c (.sc (.bool t13.1)), .c (.sc (.int .u64 x43)), .c (.sc (.int .i64 x44)), .c (.sc (.bool (z3 t13)))] 93, .ex false [.c (.sc (.bool t12.1)), .c (.sc (.int .u64 x45)), .c (.sc (.int .i64 x46)), .c (.sc (.bool (z3 t12)))] 93], 0⟩)))))))))) (by kernel_rfl) ?_)
    refine ⟨trivial, trivial, trivial, ?_⟩
    refine ⟨fun b63 => ?_, fun b63 => ?_⟩
    · rw [if_pos (of_decide_eq_true b63)] at h
      refine ⟨b63, ?_⟩
      refine ⟨trivial, ?_⟩
      refine ⟨b63, ?_⟩
      refine ⟨trivial, ?_⟩
      refine ⟨b63, ?_⟩
      refine ⟨fun b64 => ?_, fun b64 => ?_⟩
      · rw [if_neg (of_decide_eq_false b64)] at h
        refine ⟨b63, ?_⟩
        refine ⟨b64, ?_⟩
        refine ⟨b63, ?_⟩
        refine ⟨fun b69 => ?_, fun b69 => ?_⟩
        · rw [if_pos b69] at h
          refine ⟨trivial, trivial, ?_⟩
          refine ⟨fun b70 => ?_, fun b70 => ?_⟩
          · rw [if_pos (of_decide_eq_true b70)] at h
            refine ⟨trivial, trivial, trivial, trivial, trivial, trivial, trivial, trivial, ?_⟩
            exact ⟨⟨trivial, trivial, trivial⟩, ih (IntKind.wrap .u64 ((2 : Int) * x43)) (IntKind.wrap .i64 (x44 - (1 : Int))) x45 x46 x47 r h⟩
          · rw [if_neg (of_decide_eq_false b70)] at h
            refine ⟨b69, ?_⟩
            refine ⟨b69, ?_⟩
            refine ⟨b69, ?_⟩
            refine ⟨b69, ?_⟩
            refine ⟨b69, ?_⟩
            refine ⟨trivial, ?_⟩
            refine ⟨(by decide), ?_⟩
            refine ⟨trivial, trivial, trivial, trivial, trivial, trivial, ?_⟩
            refine ⟨fun b71 => ?_, fun b71 => ?_⟩
            · rw [if_pos (beq_t b71)] at h
              obtain rfl := Option.some.inj h
              exact ⟨⟨trivial, trivial, trivial⟩, rfl, rfl⟩
            · rw [if_neg (beq_f b71)] at h
              refine ⟨trivial, ?_⟩
              exact ⟨⟨trivial, trivial, trivial⟩, ih x43 x44 (IntKind.wrap .u64 (Int.tdiv x45 (2 : Int))) (IntKind.wrap .i64 (x46 + (1 : Int))) true r h⟩
        · rw [if_neg (ff b69)] at h
          obtain rfl := Option.some.inj h
          exact ⟨⟨trivial, trivial, trivial⟩, rfl, rfl⟩
      · rw [if_pos (of_decide_eq_true b64)] at h
        refine ⟨b63, ?_⟩
        refine ⟨b64, ?_⟩
        refine ⟨b63, ?_⟩
        refine ⟨rfl, trivial, trivial, ?_⟩
        refine ⟨fun b65 => ?_, fun b65 => ?_⟩
        · rw [if_pos (of_decide_eq_true b65)] at h
          refine ⟨trivial, trivial, trivial, trivial, trivial, trivial, trivial, trivial, ?_⟩
          exact ⟨⟨trivial, trivial, trivial⟩, ih (IntKind.wrap .u64 ((2 : Int) * x43)) (IntKind.wrap .i64 (x44 - (1 : Int))) x45 x46 x47 r h⟩
        · rw [if_neg (of_decide_eq_false b65)] at h
          refine ⟨fun b66 => ?_, fun b66 => ?_⟩
          · rw [if_neg (ff b66)] at h
            refine ⟨b66, ?_⟩
            refine ⟨trivial, ?_⟩
            refine ⟨b66, ?_⟩
            refine ⟨(by decide), ?_⟩
            refine ⟨b66, ?_⟩
            refine ⟨trivial, ?_⟩
            refine ⟨b66, ?_⟩
            refine ⟨trivial, ?_⟩
            refine ⟨(by decide), ?_⟩
            refine ⟨trivial, trivial, trivial, trivial, trivial, trivial, ?_⟩
            refine ⟨fun b68 => ?_, fun b68 => ?_⟩
            · rw [if_pos (beq_t b68)] at h
              obtain rfl := Option.some.inj h
              exact ⟨⟨trivial, trivial, trivial⟩, rfl, rfl⟩
            · rw [if_neg (beq_f b68)] at h
              refine ⟨trivial, ?_⟩
              exact ⟨⟨trivial, trivial, trivial⟩, ih x43 x44 (IntKind.wrap .u64 (Int.tdiv x45 (2 : Int))) (IntKind.wrap .i64 (x46 + (1 : Int))) ((Int.tmod x45 (2 : Int)) == (1 : Int)) r h⟩
          · rw [if_pos b66] at h
            refine ⟨b66, ?_⟩
            refine ⟨b66, ?_⟩
            refine ⟨b66, ?_⟩
            refine ⟨b66, ?_⟩
            refine ⟨trivial, ?_⟩
            refine ⟨(by decide), ?_⟩
            refine ⟨trivial, trivial, trivial, trivial, trivial, trivial, ?_⟩
            refine ⟨fun b67 => ?_, fun b67 => ?_⟩
            · rw [if_pos (beq_t b67)] at h
              obtain rfl := Option.some.inj h
              exact ⟨⟨trivial, trivial, trivial⟩, rfl, rfl⟩
            · rw [if_neg (beq_f b67)] at h
              refine ⟨trivial, ?_⟩
              exact ⟨⟨trivial, trivial, trivial⟩, ih x43 x44 (IntKind.wrap .u64 (Int.tdiv x45 (2 : Int))) (IntKind.wrap .i64 (x46 + (1 : Int))) true r h⟩
    · rw [if_neg (of_decide_eq_false b63)] at h
      refine ⟨b63, ?_⟩
      refine ⟨b63, ?_⟩
      refine ⟨b63, ?_⟩
      refine ⟨b63, ?_⟩
      refine ⟨b63, ?_⟩
      refine ⟨rfl, ?_⟩
      obtain rfl := Option.some.inj h
      exact ⟨⟨trivial, trivial, trivial⟩, rfl, rfl⟩
def halterref02_Add.l1 (t12 : Bool × Int × Int × Bool) (t13 : Bool × Int × Int × Bool) : Nat → Int → Int → Int → Int → Bool → Option (TY0)
  | 0, _, _, _, _, _ => none
  | n + 1, x116, x117, x118, x119, x120 =>
    if x119 < x117 then
      if x118 > (0 : Int) then
        if x116 < (2305843009213693952 : Int) then
          halterref02_Add.l1 t12 t13 n (IntKind.wrap .u64 ((2 : Int) * x116)) (IntKind.wrap .i64 (x117 - (1 : Int))) x118 x119 x120
        else
          if x120 = true then
            if (IntKind.wrap .u64 (Int.tdiv x118 (2 : Int))) = (0 : Int) then
              some (x116, x117, (IntKind.wrap .u64 (Int.tdiv x118 (2 : Int))), (IntKind.wrap .i64 (x119 + (1 : Int))), true)
            else
              halterref02_Add.l1 t12 t13 n x116 x117 (IntKind.wrap .u64 (Int.tdiv x118 (2 : Int))) (IntKind.wrap .i64 (x119 + (1 : Int))) true
          else
            if (IntKind.wrap .u64 (Int.tdiv x118 (2 : Int))) = (0 : Int) then
              some (x116, x117, (IntKind.wrap .u64 (Int.tdiv x118 (2 : Int))), (IntKind.wrap .i64 (x119 + (1 : Int))), ((Int.tmod x118 (2 : Int)) == (1 : Int)))
            else
              halterref02_Add.l1 t12 t13 n x116 x117 (IntKind.wrap .u64 (Int.tdiv x118 (2 : Int))) (IntKind.wrap .i64 (x119 + (1 : Int))) ((Int.tmod x118 (2 : Int)) == (1 : Int))
      else
        if x120 = true then
          if x116 < (2305843009213693952 : Int) then
            halterref02_Add.l1 t12 t13 n (IntKind.wrap .u64 ((2 : Int) * x116)) (IntKind.wrap .i64 (x117 - (1 : Int))) x118 x119 x120
          else
            if (IntKind.wrap .u64 (Int.tdiv x118 (2 : Int))) = (0 : Int) then
              some (x116, x117, (IntKind.wrap .u64 (Int.tdiv x118 (2 : Int))), (IntKind.wrap .i64 (x119 + (1 : Int))), true)
            else
              halterref02_Add.l1 t12 t13 n x116 x117 (IntKind.wrap .u64 (Int.tdiv x118 (2 : Int))) (IntKind.wrap .i64 (x119 + (1 : Int))) true
        else
          some (x116, x117, x118, x119, x120)
    else
      some (x116, x117, x118, x119, x120)
def halterref02_Add.l1_S (t12 : Bool × Int × Int × Bool) (t13 : Bool × Int × Int × Bool) (x116 : Int) (x117 : Int) (x118 : Int) (x119 : Int) (x120 : Bool) : St := ⟨[.any, .any, .any, .any, .any, .v (.one (.ptr 0 ⟨0, 0, 0, 0⟩)), .v (.one (.ptr 1 ⟨0, 0, 0, 0⟩)), .v (.one (.sc (.bool x120))), .any, .any, .any, .any, .any, .any, .any, .any, .any, .any, .any, .any, .any, .any, .any, .any, .any, .any, .any, .any, .any, .any, .any, .any, .any, .any, .any, .any, .any, .any, .any, .any, .any, .any, .any, .any, .any, .any, .any, .any, .any, .any, .any, .any, .any, .any, .any, .any, .any, .any, .any, .any, .any, .any, .any, .any, .any, .any, .any, .any, .any, .any, .any, .any, .any, .any, .any, .any, .any, .any, .any, .any, .any, .any, .any, .any, .any, .any, .any, .any, .any, .any, .any, .any, .any, .any, .any, .any, .any, .any, .any, .any, .any, .any, .any, .any, .any, .any, .any, .any, .any, .any, .any, .any, .any, .any, .any, .any, .any, .any, .any, .any, .any, .any, .any, .any, .any, .any, .any, .any, .any, .any, .any, .any, .any, .any, .any, .any, .any, .any, .any, .any, .any, .any, .any, .any, .any, .any, .any, .any, .any, .any, .any, .any, .any, .any, .any, .any, .any, .any, .any, .any, .any, .any, .any, .any, .any, .any, .any, .any, .any, .any, .any, .any, .any, .any, .any, .any, .any, .any, .any, .any, .any, .any, .any, .any, .any, .any, .any, .any, .any, .any, .any], [.ex false [.c (.sc (.bool t13.1)), .c (.sc (.int .u64 x116)), .c (.sc (.int .i64 x117)), .c (.sc (.bool t13.2.2.2))] 93, .ex false [.c (.sc (.bool t12.1)), .c (.sc (.int .u64 x118)), .c (.sc (.int .i64 x119)), .c (.sc (.bool t12.2.2.2))] 93], 0⟩
def halterref02_Add.l1_Q (t12 : Bool × Int × Int × Bool) (t13 : Bool × Int × Int × Bool) (t : TY0) : Exit → St → Prop := fun e s => e = (.exit 0) ∧ s = ⟨[.any, .any, .any, .any, .any, .v (.one (.ptr 0 ⟨0, 0, 0, 0⟩)), .v (.one (.ptr 1 ⟨0, 0, 0, 0⟩)), .v (.one (.sc (.bool t.2.2.2.2))), .any, .any, .any, .any, .any, .any, .any, .any, .any, .any, .any, .any, .any, .any, .any, .any, .any, .any, .any, .any, .any, .any, .any, .any, .any, .any, .any, .any, .any, .any, .any, .any, .any, .any, .any, .any, .any, .any, .any, .any, .any, .any, .any, .any, .any, .any, .any, .any, .any, .any, .any, .any, .any, .any, .any, .any, .any, .any, .any, .any, .any, .any, .any, .any, .any, .any, .any, .any, .any, .any, .any, .any, .any, .any, .any, .any, .any, .any, .any, .any, .any, .any, .any, .any, .any, .any, .any, .any, .any, .any, .any, .any, .any, .any, .any, .any, .any, .any, .any, .any, .any, .any, .any, .any, .any, .any, .any, .any, .any, .any, .any, .any, .any, .any, .any, .any, .any, .any, .any, .any, .any, .any, .any, .any, .any, .any, .any, .any, .any, .any, .any, .any, .any, .any, .any, .any, .any, .any, .any, .any, .any, .any, .any, .any, .any, .any, .any, .any, .any, .any, .any, .any, .any, .any, .any, .any, .any, .any, .any, .any, .any, .any, .any, .any, .any, .any, .any, .any, .any, .any, .any, .any, .any, .any, .any, .any, .any, .any, .any, .any, .any, .any, .any], [.ex false [.c (.sc (.bool t13.1)), .c (.sc (.int .u64 t.1)), .c (.sc (.int .i64 t.2.1)), .c (.sc (.bool t13.2.2.2))] 93, .ex false [.c (.sc (.bool t12.1)), .c (.sc (.int .u64 t.2.2.1)), .c (.sc (.int .i64 t.2.2.2.1)), .c (.sc (.bool t12.2.2.2))] 93], 0⟩
theorem halterref02_Add.l1_ok (t12 : Bool × Int × Int × Bool) (t13 : Bool × Int × Int × Bool) : ∀ (n : Nat) (x116 : Int) (x117 : Int) (x118 : Int) (x119 : Int) (x120 : Bool) (r : TY0), halterref02_Add.l1 t12 t13 n x116 x117 x118 x119 x120 = some r → TripN cfg (cpath (Tryd.f35.body.getD .skip) [1, 1, 1, 1, 1, 1, 1, 1, 1, 1, 1, 1, 0, 0, 0]) n (halterref02_Add.l1_S t12 t13 x116 x117 x118 x119 x120) (halterref02_Add.l1_Q t12 t13 r) := by
  intro n
  induction n with
  | zero => intro x116 x117 x118 x119 x120 r h; cases h
  | succ n ih =>
    intro x116 x117 x118 x119 x120 r h
    rw [halterref02_Add.l1] at h
    refine TripN.of_run cfg_ok (k := (.br (oT 3 (.br (oT 4 (.br (aE 2 (.adj [.keep [5, 6, 7], .drop 2] .nil)) (.br (oT 4 (.br (.adj [.keep [5, 6, 7], .drop 2] .nil) (.adj [] (.adj [.keep [5, 6, 7], .drop 2] .nil)))) (oF 4 (.br (.adj [.keep [5, 6, 7], .drop 2] .nil) (.adj [] (.adj [.keep [5, 6, 7], .drop 2] .nil))))))) (.one true (.one false (.one true (.br (.br (aE 2 (.adj [.keep [5, 6, 7], .drop 2] .nil)) (oT 5 (.br (.adj [.keep [5, 6, 7], .drop 2] .nil) (.adj [] (.adj [.keep [5, 6, 7], .drop 2] .nil))))) (.adj [.keep [5, 6, 7], .drop 2] .nil))))))) (oF 6 (.adj [.keep [5, 6, 7], .drop 2] .nil)))) (to_goal (q := (True) ∧ (True) ∧ (True) ∧ (((decide (x119 < x117)) = true → ((decide (x119 < x117)) = true ∧ (True) ∧ ((decide (x119 < x117)) = true ∧ (True) ∧ ((decide (x119 < x117)) = true ∧ (((decide (x118 > (0 : Int))) = false → ((decide (x119 < x117)) = true ∧ ((decide (x118 > (0 : Int))) = false ∧ ((decide (x119 < x117)) = true ∧ ((x120 = true → (True) ∧ (True) ∧ (((decide (x116 < (2305843009213693952 : Int))) = true → (True ∧ (True) ∧ (True) ∧ (True) ∧ (True) ∧ (True) ∧ (True) ∧ (True ∧ (((True) ∧ (True) ∧ True) ∧ TripN cfg (cpath (Tryd.f35.body.getD .skip) [1, 1, 1, 1, 1, 1, 1, 1, 1, 1, 1, 1, 0, 0, 0]) n (halterref02_Add.l1_S t12 t13 (IntKind.wrap .u64 ((2 : Int) * x116)) (IntKind.wrap .i64 (x117 - (1 : Int))) x118 x119 x120) (halterref02_Add.l1_Q t12 t13 r))))) ∧ ((decide (x116 < (2305843009213693952 : Int))) = false → (x120 = true ∧ (x120 = true ∧ (x120 = true ∧ (x120 = true ∧ (x120 = true ∧ (True) ∧ ((2 : Int) ≠ 0) ∧ (True) ∧ (True) ∧ (True) ∧ (True) ∧ (True) ∧ (True) ∧ ((((IntKind.wrap .u64 (Int.tdiv x118 (2 : Int))) == (0 : Int)) = true → (((True) ∧ (True) ∧ True) ∧ halterref02_Add.l1_Q t12 t13 r (.exit 0) ⟨[.any, .any, .any, .any, .any, .v (.one (.ptr 0 ⟨0, 0, 0, 0⟩)), .v (.one (.ptr 1 ⟨0, 0, 0, 0⟩)), .v (.one (.sc (.bool true))), .any, .any, .any, .any, .any, .any, .any, .any, .any, .any, .any, .any, .any, .any, .any, .any, .any, .any, .any, .any, .any, .any, .any, .any, .any, .any, .any, .any, .any, .any, .any, .any, .any, .any, .any, .any, .any, .any, .any, .any, .any, .any, .any, .any, .any, .any, .any, .any, .any, .any, .any, .any, .any, .any, .any, .any, .any, .any, .any, .any, .any, .any, .any, .any, .any, .any, .any, .any, .any, .any, .any, .any, .any, .any, .any, .any, .any, .any, .any, .any, .any, .any, .any, .any, .any, .any, .any, .any, .any, .any, .any, .any, .any, .any, .any, .any, .any, .any, .any, .any, .any, .any, .any, .any, .any, .any, .any, .any, .any, .any, .any, .any, .any, .any, .any, .any, .any, .any, .any, .any, .any, .any, .any, .any, .any, .any, .any, .any, .any, .any, .any, .any, .any, .any, .any, .any, .any, .any, .any, .any, .any, .any, .any, .any, .any, .any, .any, .any, .any, .any, .any, .any, .any, .any, .any, .any, .any, .any, .any, .any, .any, .any, .any, .any, .any, .any, .any, .any, .any, .any, .any, .any, .any, .any, .any, .any, .any, .any, .any, .any, .any, .any, .any], [.ex false [.c (.sc (.bool t13.1)), .c (.sc (.int .u64 x116)), .c (.sc (.int .i64 x117)), .c (.sc (.bool (z3 t13)))] 93, .ex false [.c (.sc (.bool t12.1)), .c (.sc (.int .u64 (IntKind.wrap .u64 (Int.tdiv x118 (2 : Int))))), .c (.sc (.int .i64 (IntKind.wrap .i64 (x119 + (1 : Int))))), .c (.sc (.bool (z3 t12)))] 93], 0⟩)) ∧ (((IntKind.wrap .u64 (Int.tdiv x118 (2 : Int))) == (0 : Int)) = false → (True ∧ (((True) ∧ (True) ∧ True) ∧ TripN cfg (cpath (Tryd.f35.body.getD .skip) [1, 1, 1, 1, 1, 1, 1, 1, 1, 1, 1, 1, 0, 0, 0]) n (halterref02_Add.l1_S t12 t13 x116 x117 (IntKind.wrap .u64 (Int.tdiv x118 (2 : Int))) (IntKind.wrap .i64 (x119 + (1 : Int))) true) (halterref02_Add.l1_Q t12 t13 r))))))))))))) ∧ (x120 = false → (((True) ∧ (True) ∧ True) ∧ halterref02_Add.l1_Q t12 t13 r (.exit 0) ⟨[.any, .any, .any, .any, .any, .v (.one (.ptr 0 ⟨0, 0, 0, 0⟩)), .v (.one (.ptr 1 ⟨0, 0, 0, 0⟩)), .v (.one (.sc (.bool x120))), .any, .any, .any, .any, .any, .any, .any, .any, .any, .any, .any, .any, .any, .any, .any, .any, .any, .any, .any, .any, .any, .any, .any, .any, .any, .any, .any, .any, .any, .any, .any, .any, .any, .any, .any, .any, .any, .any, .any, .any, .any, .any, .any, .any, .any, .any, .any, .any, .any, .any, .any, .any, .any, .any, .any, .any, .any, .any, .any, .any, .any, .any, .any, .any, .any, .any, .any, .any, .any, .any, .any, .any, .any, .any, .any, .any, .any, .any, .any, .any, .any, .any, .any, .any, .any, .any, .any, .any, .any, .any, .any, .any, .any, .any, .any, .any, .any, .any, .any, .any, .any, .any, .any, .any, .any, .any, .any, .any, .any, .any, .any, .any, .any, .any, .any, .any, .any, .any, .any, .any, .any, .any, .any, .any, .any, .any, .any, .any, .any, .any, .any, .any, .any, .any, .any, .any, .any, .any, .any, .any, .any, .any, .any, .any, .any, .any, .any, .any, .any, .any, .any, .any, .any, .any, .any, .any, .any, .any, .any, .any, .any, .any, .any, .any, .any, .any, .any, .any, .any, .any, .any, .any, .any, .any, .any, .any, .any, .any, .any, .any, .any, .any, .any], [.ex false [.c (.sc (.bool t13.1)), .c (.sc (.int .u64 x116)), .c (.sc (.int .i64 x117)), .c (.sc (.bool (z3 t13)))] 93, .ex false [.c (.sc (.bool t12.1)), .c (.sc (.int .u64 x118)), .c (.sc (.int .i64 x119)), .c (.sc (.bool (z3 t12)))] 93], 0⟩))))))) ∧ ((decide (x118 > (0 : Int))) = true → ((decide (x119 < x117)) = true ∧ ((decide (x118 > (0 : Int))) = true ∧ ((decide (x119 < x117)) = true ∧ (true = true ∧ (True) ∧ (True) ∧ (((decide (x116 < (2305843009213693952 : Int))) = true → (True ∧ (True) ∧ (True) ∧ (True) ∧ (True) ∧ (True) ∧ (True) ∧ (True ∧ (((True) ∧ (True) ∧ True) ∧ TripN cfg (cpath (Tryd.f35.body.getD .skip) [1, 1, 1, 1, 1, 1, 1, 1, 1, 1, 1, 1, 0, 0, 0]) n (halterref02_Add.l1_S t12 t13 (IntKind.wrap .u64 ((2 : Int) * x116)) (IntKind.wrap .i64 (x117 - (1 : Int))) x118 x119 x120) (halterref02_Add.l1_Q t12 t13 r))))) ∧ ((decide (x116 < (2305843009213693952 : Int))) = false → ((x120 = false → (x120 = false ∧ (True) ∧ (x120 = false ∧ ((2 : Int) ≠ 0) ∧ (x120 = false ∧ (True) ∧ (x120 = false ∧ (True) ∧ ((2 : Int) ≠ 0) ∧ (True) ∧ (True) ∧ (True) ∧ (True) ∧ (True) ∧ (True) ∧ ((((IntKind.wrap .u64 (Int.tdiv x118 (2 : Int))) == (0 : Int)) = true → (((True) ∧ (True) ∧ True) ∧ halterref02_Add.l1_Q t12 t13 r (.exit 0) ⟨[.any, .any, .any, .any, .any, .v (.one (.ptr 0 ⟨0, 0, 0, 0⟩)), .v (.one (.ptr 1 ⟨0, 0, 0, 0⟩)), .v (.one (.sc (.bool ((Int.tmod x118 (2 : Int)) == (1 : Int))))), .any, .any, .any, .any, .any, .any, .any, .any, .any, .any, .any, .any, .any, .any, .any, .any, .any, .any, .any, .any, .any, .any, .any, .any, .any, .any, .any, .any, .any, .any, .any, .any, .any, .any, .any, .any, .any, .any, .any, .any, .any, .any, .any, .any, .any, .any, .any, .any, .any, .any, .any, .any, .any, .any, .any, .any, .any, .any, .any, .any, .any, .any, .any, .any, .any, .any, .any, .any, .any, .any, .any, .any, .any, .any, .any, .any, .any, .any, .any, .any, .any, .any, .any, .any, .any, .any, .any, .any, .any, .any, .any, .any, .any, .any, .any, .any, .any, .any, .any, .any, .any, .any, .any, .any, .any, .any, .any, .any, .any, .any, .any, .any, .any, .any, .any, .any, .any, .any, .any, .any, .any, .any, .any, .any, .any, .any, .any, .any, .any, .any, .any, .any, .any, .any, .any, .any, .any, .any, .any, .any, .any, .any, .any, .any, .any, .any, .any, .any, .any, .any, .any, .any, .any, .any, .any, .any, .any, .any, .any, .any, .any, .any, .any, .any, .any, .any, .any, .any, .any, .any, .any, .any, .any, .any, .any, .any, .any, .any, .any, .any, .any, .any, .any], [.ex false [.c (.sc (.bool t13.1)), .c (.sc (.int .u64 x116)), .c (.sc (.int .i64 x117)), .c (.sc (.bool (z3 t13)))] 93, .ex false [.c (.sc (.bool t12.1)), .c (.sc (.int .u64 (IntKind.wrap .u64 (Int.tdiv x118 (2 : Int))))), .c (.sc (.int .i64 (IntKind.wrap .i64 (x119 + (1 : Int))))), .c (.sc (.bool (z3 t12)))] 93], 0⟩)) ∧ (((IntKind.wrap .u64 (Int.tdiv x118 (2 : Int))) == (0 : Int)) = false → (True ∧ (((True) ∧ (True) ∧ True) ∧ TripN cfg (cpath (Tryd.f35.body.getD .skip) [1, 1, 1, 1, 1, 1, 1, 1, 1, 1, 1, 1, 0, 0, 0]) n (halterref02_Add.l1_S t12 t13 x116 x117 (IntKind.wrap .u64 (Int.tdiv x118 (2 : Int))) (IntKind.wrap .i64 (x119 + (1 : Int))) ((Int.tmod x118 (2 : Int)) == (1 : Int))) (halterref02_Add.l1_Q t12 t13 r)))))))))) ∧ (x120 = true → (x120 = true ∧ (x120 = true ∧ (x120 = true ∧ (x120 = true ∧ (True) ∧ ((2 : Int) ≠ 0) ∧ (True) ∧ (True) ∧ (True) ∧ (True) ∧ (True) ∧ (True) ∧ ((((IntKind.wrap .u64 (Int.tdiv x118 (2 : Int))) == (0 : Int)) = true → (((True) ∧ (True) ∧ True) ∧ halterref02_Add.l1_Q t12 t13 r (.exit 0) ⟨[.any, .any, .any, .any, .any, .v (.one (.ptr 0 ⟨0, 0, 0, 0⟩)), .v (.one (.ptr 1 ⟨0, 0, 0, 0⟩)), .v (.one (.sc (.bool true))), .any, .any, .any, .any, .any, .any, .any, .any, .any, .any, .any, .any, .any, .any, .any, .any, .any, .any, .any, .any, .any, .any, .any, .any, .any, .any, .any, .any, .any, .any, .any, .any, .any, .any, .any, .any, .any, .any, .any, .any, .any, .any, .any, .any, .any, .any, .any, .any, .any, .any, .any, .any, .any, .any, .any, .any, .any, .any, .any, .any, .any, .any, .any, .any, .any, .any, .any, .any, .any, .any, .any, .any, .any, .any, .any, .any, .any, .any, .any, .any, .any, .any, .any, .any, .any, .any, .any, .any, .any, .any, .any, .any, .any, .any, .any, .any, .any, .any, .any, .any, .any, .any, .any, .any, .any, .any, .any, .any, .any, .any, .any, .any, .any, .any, .any, .any, .any, .any, .any, .any, .any, .any, .any, .any, .any, .any, .any, .any, .any, .any, .any, .any, .any, .any, .any, .any, .any, .any, .any, .any, .any, .any, .any, .any, .any, .any, .any, .any, .any, .any, .any, .any, .any, .any, .any, .any, .any, .any, .any, .any, .any, .any, .any, .any, .any, .any, .any, .any, .any, .any, .any, .any, .any, .any, .any, .any, .any, .any, .any, .any, .any, .any, .any], [.ex false [.c (.sc (.bool t13.1)), .c (.sc (.int .u64 x116)), .c (.sc (.int .i64 x117)), .c (.sc (.bool (z3 t13)))] 93, .ex false [.c (.sc (.bool t12.1)), .c (.sc (.int .u64 (IntKind.wrap .u64 (Int.tdiv x118 (2 : Int))))), .c (.sc (.int .i64 (IntKind.wrap .i64 (x119 + (1 : Int))))), .c (.sc (.bool (z3 t12)))] 93], 0⟩)) ∧ (((IntKind.wrap .u64 (Int.tdiv x118 (2 : Int))) == (0 : Int)) = false → (True ∧ (((True) ∧ (True) ∧ True) ∧ TripN cfg (cpath (Tryd.f35.body.getD .skip) [1, 1, 1, 1, 1, 1, 1, 1, 1, 1, 1, 1, 0, 0, 0]) n (halterref02_Add.l1_S t12 t13 x116 x117 (IntKind.wrap .u64 (Int.tdiv x118 (2 : Int))) (IntKind.wrap .i64 (x119 + (1 : Int))) true) (halterref02_Add.l1_Q t12 t13 r))))))))))))))))))))))) ∧ ((decide (x119 < x117)) = false → ((decide (x119 < x117)) = false ∧ ((decide (x119 < x117)) = false ∧ ((decide (x119 < x117)) = false ∧ ((decide (x119 < x117)) = false ∧ ((decide (x119 < x117)) = false ∧ (false = false ∧ (((True) ∧ (True) ∧ True) ∧ halterref02_Add.l1_Q t12 t13 r (.exit 0) ⟨[.any, .any, .any, .any, .any, .v (.one (.ptr 0 ⟨0, 0, 0, 0⟩)), .v (.one (.ptr 1 ⟨0, 0, 0, 0⟩)), .v (.one (.sc (.bool x120))), .any, .any, .any, .any, .any, .any, .any, .any, .any, .any, .any, .any, .any, .any, .any, .any, .any, .any, .any, .any, .any, .any, .any, .any, .any, .any, .any, .any, .any, .any, .any, .any, .any, .any, .any, .any, .any, .any, .any, .any, .any, .any, .any, .any, .any, .any, .any, .any, .any, .any, .any, .any, .any, .any, .any, .any, .any, .any, .any, .any, .any, .any, .any, .any, .any, .any, .any, .any, .any, .any, .any, .any, .any, .any, .any, .any, .any, .any, .any, .any, .any, .any, .any, .any, .any, .any, .any, .any, .any, .any, .any, .any, .any, .any, .any, .any, .any, .any, .any, .any, .any, .any, .any, .any, .any, .any, .any, .any, .any, .any, .any, .any, .any, .any, .any, .any, .any, .any, .any, .any, .any, .any, .any, .any, .any, .any, .any, .any, .any, .any, .any, .any, .any, .any, .any, .any, .any, .any, .any, .any, .any, .any, .any, .any, .any, .any, .any, .any, .any, .any, .any, .any, .any, .any, .any, .any, .any, .any, .any, .any, .any, .any, .any, .any, .any, .any, .any, .any, .any, .any, .any, .any, .any, .any, .any, .any, .any, .any, .any, .any, .any, .any, .any], [.ex false [.c (.sc (.bool t13.1)), .c (.sc (.int .u64 x116)), .c (.sc (.int .i64 x117)), .c (.sc (.bool (z3 t13)))] 93, .ex false [.c (.sc (.bool t12.1)), .c (.sc (.int .u64 x118)), .c (.sc (.int .i64 x119)), .c (.sc (.bool (z3 t12)))] 93], 0⟩)))))))))) (by kernel_rfl) ?_)
    refine ⟨trivial, trivial, trivial, ?_⟩
    refine ⟨fun b136 => ?_, fun b136 => ?_⟩
    · rw [if_pos (of_decide_eq_true b136)] at h
      refine ⟨b136, ?_⟩
      refine ⟨trivial, ?_⟩
      refine ⟨b136, ?_⟩
      refine ⟨trivial, ?_⟩
      refine ⟨b136, ?_⟩
      refine ⟨fun b137 => ?_, fun b137 => ?_⟩
      · rw [if_neg (of_decide_eq_false b137)] at h
        refine ⟨b136, ?_⟩
        refine ⟨b137, ?_⟩
        refine ⟨b136, ?_⟩
        refine ⟨fun b142 => ?_, fun b142 => ?_⟩
        · rw [if_pos b142] at h
          refine ⟨trivial, trivial, ?_⟩
          refine ⟨fun b143 => ?_, fun b143 => ?_⟩
          · rw [if_pos (of_decide_eq_true b143)] at h
            refine ⟨trivial, trivial, trivial, trivial, trivial, trivial, trivial, trivial, ?_⟩
            exact ⟨⟨trivial, trivial, trivial⟩, ih (IntKind.wrap .u64 ((2 : Int) * x116)) (IntKind.wrap .i64 (x117 - (1 : Int))) x118 x119 x120 r h⟩
          · rw [if_neg (of_decide_eq_false b143)] at h
            refine ⟨b142, ?_⟩
            refine ⟨b142, ?_⟩
            refine ⟨b142, ?_⟩
            refine ⟨b142, ?_⟩
            refine ⟨b142, ?_⟩
            refine ⟨trivial, ?_⟩
            refine ⟨(by decide), ?_⟩
            refine ⟨trivial, trivial, trivial, trivial, trivial, trivial, ?_⟩
            refine ⟨fun b144 => ?_, fun b144 => ?_⟩
            · rw [if_pos (beq_t b144)] at h
              obtain rfl := Option.some.inj h
              exact ⟨⟨trivial, trivial, trivial⟩, rfl, rfl⟩
            · rw [if_neg (beq_f b144)] at h
              refine ⟨trivial, ?_⟩
              exact ⟨⟨trivial, trivial, trivial⟩, ih x116 x117 (IntKind.wrap .u64 (Int.tdiv x118 (2 : Int))) (IntKind.wrap .i64 (x119 + (1 : Int))) true r h⟩
        · rw [if_neg (ff b142)] at h
          obtain rfl := Option.some.inj h
          exact ⟨⟨trivial, trivial, trivial⟩, rfl, rfl⟩
      · rw [if_pos (of_decide_eq_true b137)] at h
        refine ⟨b136, ?_⟩
        refine ⟨b137, ?_⟩
        refine ⟨b136, ?_⟩
        refine ⟨rfl, trivial, trivial, ?_⟩
        refine ⟨fun b138 => ?_, fun b138 => ?_⟩
        · rw [if_pos (of_decide_eq_true b138)] at h
          refine ⟨trivial, trivial, trivial, trivial, trivial, trivial, trivial, trivial, ?_⟩
          exact ⟨⟨trivial, trivial, trivial⟩, ih (IntKind.wrap .u64 ((2 : Int) * x116)) (IntKind.wrap .i64 (x117 - (1 : Int))) x118 x119 x120 r h⟩
        · rw [if_neg (of_decide_eq_false b138)] at h
          refine ⟨fun b139 => ?_, fun b139 => ?_⟩
          · rw [if_neg (ff b139)] at h
            refine ⟨b139, ?_⟩
            refine ⟨trivial, ?_⟩
            refine ⟨b139, ?_⟩
            refine ⟨(by decide), ?_⟩
            refine ⟨b139, ?_⟩
            refine ⟨trivial, ?_⟩
            refine ⟨b139, ?_⟩
            refine ⟨trivial, ?_⟩
            refine ⟨(by decide), ?_⟩
            refine ⟨trivial, trivial, trivial, trivial, trivial, trivial, ?_⟩
            refine ⟨fun b141 => ?_, fun b141 => ?_⟩
            · rw [if_pos (beq_t b141)] at h
              obtain rfl := Option.some.inj h
              exact ⟨⟨trivial, trivial, trivial⟩, rfl, rfl⟩
            · rw [if_neg (beq_f b141)] at h
              refine ⟨trivial, ?_⟩
              exact ⟨⟨trivial, trivial, trivial⟩, ih x116 x117 (IntKind.wrap .u64 (Int.tdiv x118 (2 : Int))) (IntKind.wrap .i64 (x119 + (1 : Int))) ((Int.tmod x118 (2 : Int)) == (1 : Int)) r h⟩
          · rw [if_pos b139] at h
            refine ⟨b139, ?_⟩
            refine ⟨b139, ?_⟩
            refine ⟨b139, ?_⟩
            refine ⟨b139, ?_⟩
            refine ⟨trivial, ?_⟩
            refine ⟨(by decide), ?_⟩
            refine ⟨trivial, trivial, trivial, trivial, trivial, trivial, ?_⟩
            refine ⟨fun b140 => ?_, fun b140 => ?_⟩
            · rw [if_pos (beq_t b140)] at h
              obtain rfl := Option.some.inj h
              exact ⟨⟨trivial, trivial, trivial⟩, rfl, rfl⟩
            · rw [if_neg (beq_f b140)] at h
              refine ⟨trivial, ?_⟩
              exact ⟨⟨trivial, trivial, trivial⟩, ih x116 x117 (IntKind.wrap .u64 (Int.tdiv x118 (2 : Int))) (IntKind.wrap .i64 (x119 + (1 : Int))) true r h⟩
    · rw [if_neg (of_decide_eq_false b136)] at h
      refine ⟨b136, ?_⟩
      refine ⟨b136, ?_⟩
      refine ⟨b136, ?_⟩
      refine ⟨b136, ?_⟩
      refine ⟨b136, ?_⟩
      refine ⟨rfl, ?_⟩
      obtain rfl := Option.some.inj h
      exact ⟨⟨trivial, trivial, trivial⟩, rfl, rfl⟩
def halterref02_Add.l2 (t12 : Bool × Int × Int × Bool) (t13 : Bool × Int × Int × Bool) : Nat → Int → Int → Int → Int → Bool → Option (TY0)
  | 0, _, _, _, _, _ => none
  | n + 1, x187, x188, x189, x190, x191 =>
    if x190 < x188 then
      if x189 > (0 : Int) then
        if x187 < (2305843009213693952 : Int) then
          halterref02_Add.l2 t12 t13 n (IntKind.wrap .u64 ((2 : Int) * x187)) (IntKind.wrap .i64 (x188 - (1 : Int))) x189 x190 x191
        else
          if x191 = true then
            if (IntKind.wrap .u64 (Int.tdiv x189 (2 : Int))) = (0 : Int) then
              some (x187, x188, (IntKind.wrap .u64 (Int.tdiv x189 (2 : Int))), (IntKind.wrap .i64 (x190 + (1 : Int))), true)
            else
              halterref02_Add.l2 t12 t13 n x187 x188 (IntKind.wrap .u64 (Int.tdiv x189 (2 : Int))) (IntKind.wrap .i64 (x190 + (1 : Int))) true
          else
            if (IntKind.wrap .u64 (Int.tdiv x189 (2 : Int))) = (0 : Int) then
              some (x187, x188, (IntKind.wrap .u64 (Int.tdiv x189 (2 : Int))), (IntKind.wrap .i64 (x190 + (1 : Int))), ((Int.tmod x189 (2 : Int)) == (1 : Int)))
            else
              halterref02_Add.l2 t12 t13 n x187 x188 (IntKind.wrap .u64 (Int.tdiv x189 (2 : Int))) (IntKind.wrap .i64 (x190 + (1 : Int))) ((Int.tmod x189 (2 : Int)) == (1 : Int))
      else
        if x191 = true then
          if x187 < (2305843009213693952 : Int) then
            halterref02_Add.l2 t12 t13 n (IntKind.wrap .u64 ((2 : Int) * x187)) (IntKind.wrap .i64 (x188 - (1 : Int))) x189 x190 x191
          else
            if (IntKind.wrap .u64 (Int.tdiv x189 (2 : Int))) = (0 : Int) then
              some (x187, x188, (IntKind.wrap .u64 (Int.tdiv x189 (2 : Int))), (IntKind.wrap .i64 (x190 + (1 : Int))), true)
            else
              halterref02_Add.l2 t12 t13 n x187 x188 (IntKind.wrap .u64 (Int.tdiv x189 (2 : Int))) (IntKind.wrap .i64 (x190 + (1 : Int))) true
        else
          some (x187, x188, x189, x190, x191)
    else
      some (x187, x188, x189, x190, x191)
def halterref02_Add.l2_S (t12 : Bool × Int × Int × Bool) (t13 : Bool × Int × Int × Bool) (x187 : Int) (x188 : Int) (x189 : Int) (x190 : Int) (x191 : Bool) : St := ⟨[.any, .any, .any, .any, .any, .v (.one (.ptr 0 ⟨0, 0, 0, 0⟩)), .v (.one (.ptr 1 ⟨0, 0, 0, 0⟩)), .v (.one (.sc (.bool x191))), .any, .any, .any, .any, .any, .any, .any, .any, .any, .any, .any, .any, .any, .any, .any, .any, .any, .any, .any, .any, .any, .any, .any, .any, .any, .any, .any, .any, .any, .any, .any, .any, .any, .any, .any, .any, .any, .any, .any, .any, .any, .any, .any, .any, .any, .any, .any, .any, .any, .any, .any, .any, .any, .any, .any, .any, .any, .any, .any, .any, .any, .any, .any, .any, .any, .any, .any, .any, .any, .any, .any, .any, .any, .any, .any, .any, .any, .any, .any, .any, .any, .any, .any, .any, .any, .any, .any, .any, .any, .any, .any, .any, .any, .any, .any, .any, .any, .any, .any, .any, .any, .any, .any, .any, .any, .any, .any, .any, .any, .any, .any, .any, .any, .any, .any, .any, .any, .any, .any, .any, .any, .any, .any, .any, .any, .any, .any, .any, .any, .any, .any, .any, .any, .any, .any, .any, .any, .any, .any, .any, .any, .any, .any, .any, .any, .any, .any, .any, .any, .any, .any, .any, .any, .any, .any, .any, .any, .any, .any, .any, .any, .any, .any, .any, .any, .any, .any, .any, .any, .any, .any, .any, .any, .any, .any, .any, .any, .any, .any, .any, .any, .any, .any], [.ex false [.c (.sc (.bool t12.1)), .c (.sc (.int .u64 x187)), .c (.sc (.int .i64 x188)), .c (.sc (.bool t12.2.2.2))] 93, .ex false [.c (.sc (.bool t13.1)), .c (.sc (.int .u64 x189)), .c (.sc (.int .i64 x190)), .c (.sc (.bool t13.2.2.2))] 93], 0⟩
def halterref02_Add.l2_Q (t12 : Bool × Int × Int × Bool) (t13 : Bool × Int × Int × Bool) (t : TY0) : Exit → St → Prop := fun e s => e = (.exit 0) ∧ s = ⟨[.any, .any, .any, .any, .any, .v (.one (.ptr 0 ⟨0, 0, 0, 0⟩)), .v (.one (.ptr 1 ⟨0, 0, 0, 0⟩)), .v (.one (.sc (.bool t.2.2.2.2))), .any, .any, .any, .any, .any, .any, .any, .any, .any, .any, .any, .any, .any, .any, .any, .any, .any, .any, .any, .any, .any, .any, .any, .any, .any, .any, .any, .any, .any, .any, .any, .any, .any, .any, .any, .any, .any, .any, .any, .any, .any, .any, .any, .any, .any, .any, .any, .any, .any, .any, .any, .any, .any, .any, .any, .any, .any, .any, .any, .any, .any, .any, .any, .any, .any, .any, .any, .any, .any, .any, .any, .any, .any, .any, .any, .any, .any, .any, .any, .any, .any, .any, .any, .any, .any, .any, .any, .any, .any, .any, .any, .any, .any, .any, .any, .any, .any, .any, .any, .any, .any, .any, .any, .any, .any, .any, .any, .any, .any, .any, .any, .any, .any, .any, .any, .any, .any, .any, .any, .any, .any, .any, .any, .any, .any, .any, .any, .any, .any, .any, .any, .any, .any, .any, .any, .any, .any, .any, .any, .any, .any, .any, .any, .any, .any, .any, .any, .any, .any, .any, .any, .any, .any, .any, .any, .any, .any, .any, .any, .any, .any, .any, .any, .any, .any, .any, .any, .any, .any, .any, .any, .any, .any, .any, .any, .any, .any, .any, .any, .any, .any, .any, .any], [.ex false [.c (.sc (.bool t12.1)), .c (.sc (.int .u64 t.1)), .c (.sc (.int .i64 t.2.1)), .c (.sc (.bool t12.2.2.2))] 93, .ex false [.c (.sc (.bool t13.1)), .c (.sc (.int .u64 t.2.2.1)), .c (.sc (.int .i64 t.2.2.2.1)), .c (.sc (.bool t13.2.2.2))] 93], 0⟩
theorem halterref02_Add.l2_ok (t12 : Bool × Int × Int × Bool) (t13 : Bool × Int × Int × Bool) : ∀ (n : Nat) (x187 : Int) (x188 : Int) (x189 : Int) (x190 : Int) (x191 : Bool) (r : TY0), halterref02_Add.l2 t12 t13 n x187 x188 x189 x190 x191 = some r → TripN cfg (cpath (Tryd.f35.body.getD .skip) [1, 1, 1, 1, 1, 1, 1, 1, 1, 1, 1, 1, 0, 0, 0]) n (halterref02_Add.l2_S t12 t13 x187 x188 x189 x190 x191) (halterref02_Add.l2_Q t12 t13 r) := by
  intro n
  induction n with
  | zero => intro x187 x188 x189 x190 x191 r h; cases h
  | succ n ih =>
    intro x187 x188 x189 x190 x191 r h
    rw [halterref02_Add.l2] at h
    refine TripN.of_run cfg_ok (k := (.br (oT 3 (.br (oT 4 (.br (aE 2 (.adj [.keep [5, 6, 7], .drop 2] .nil)) (.br (oT 4 (.br (.adj [.keep [5, 6, 7], .drop 2] .nil) (.adj [] (.adj [.keep [5, 6, 7], .drop 2] .nil)))) (oF 4 (.br (.adj [.keep [5, 6, 7], .drop 2] .nil) (.adj [] (.adj [.keep [5, 6, 7], .drop 2] .nil))))))) (.one true (.one false (.one true (.br (.br (aE 2 (.adj [.keep [5, 6, 7], .drop 2] .nil)) (oT 5 (.br (.adj [.keep [5, 6, 7], .drop 2] .nil) (.adj [] (.adj [.keep [5, 6, 7], .drop 2] .nil))))) (.adj [.keep [5, 6, 7], .drop 2] .nil))))))) (oF 6 (.adj [.keep [5, 6, 7], .drop 2] .nil)))) (to_goal (q := (True) ∧ (True) ∧ (True) ∧ (((decide (x190 < x188)) = true → ((decide (x190 < x188)) = true ∧ (True) ∧ ((decide (x190 < x188)) = true ∧ (True) ∧ ((decide (x190 < x188)) = true ∧ (((decide (x189 > (0 : Int))) = false → ((decide (x190 < x188)) = true ∧ ((decide (x189 > (0 : Int))) = false ∧ ((decide (x190 < x188)) = true ∧ ((x191 = true → (True) ∧ (True) ∧ (((decide (x187 < (2305843009213693952 : Int))) = true → (True ∧ (True) ∧ (True) ∧ (True) ∧ (True) ∧ (True) ∧ (True) ∧ (True ∧ (((True) ∧ (True) ∧ True) ∧ TripN cfg (cpath (Tryd.f35.body.getD .skip) [1, 1, 1, 1, 1, 1, 1, 1, 1, 1, 1, 1, 0, 0, 0]) n (halterref02_Add.l2_S t12 t13 (IntKind.wrap .u64 ((2 : Int) * x187)) (IntKind.wrap .i64 (x188 - (1 : Int))) x189 x190 x191) (halterref02_Add.l2_Q t12 t13 r))))) ∧ ((decide (x187 < (2305843009213693952 : Int))) = false → (x191 = true ∧ (x191 = true ∧ (x191 = true ∧ (x191 = true ∧ (x191 = true ∧ (True) ∧ ((2 : Int) ≠ 0) ∧ (True) ∧ (True) ∧ (True) ∧ (True) ∧ (True) ∧ (True) ∧ ((((IntKind.wrap .u64 (Int.tdiv x189 (2 : Int))) == (0 : Int)) = true → (((True) ∧ (True) ∧ True) ∧ halterref02_Add.l2_Q t12 t13 r (.exit 0) ⟨[.any, .any, .any, .any, .any, .v (.one (.ptr 0 ⟨0, 0, 0, 0⟩)), .v (.one (.ptr 1 ⟨0, 0, 0, 0⟩)), .v (.one (.sc (.bool true))), .any, .any, .any, .any, .any, .any, .any, .any, .any, .any, .any, .any, .any, .any, .any, .any, .any, .any, .any, .any, .any, .any, .any, .any, .any, .any, .any, .any, .any, .any, .any, .any, .any, .any, .any, .any, .any, .any, .any, .any, .any, .any, .any, .any, .any, .any, .any, .any, .any, .any, .any, .any, .any, .any, .any, .any, .any, .any, .any, .any, .any, .any, .any, .any, .any, .any, .any, .any, .any, .any, .any, .any, .any, .any, .any, .any, .any, .any, .any, .any, .any, .any, .any, .any, .any, .any, .any, .any, .any, .any, .any, .any, .any, .any, .any, .any, .any, .any, .any, .any, .any, .any, .any, .any, .any, .any, .any, .any, .any, .any, .any, .any, .any, .any, .any, .any, .any, .any, .any, .any, .any, .any, .any, .any, .any, .any, .any, .any, .any, .any, .any, .any, .any, .any, .any, .any, .any, .any, .any, .any, .any, .any, .any, .any, .any, .any, .any, .any, .any, .any, .any, .any, .any, .any, .any, .any, .any, .any, .any, .any, .any, .any, .any, .any, .any, .any, .any, .any, .any, .any, .any, .any, .any, .any, .any, .any, .any, .any, .any, .any, .any, .any, .any], [.ex false [.c (.sc (.bool t12.1)), .c (.sc (.int .u64 x187)), .c (.sc (.int .i64 x188)), .c (.sc (.bool (z3 t12)))] 93, .ex false [.c (.sc (.bool t13.1)), .c (.sc (.int .u64 (IntKind.wrap .u64 (Int.tdiv x189 (2 : Int))))), .c (.sc (.int .i64 (IntKind.wrap .i64 (x190 + (1 : Int))))), .c (.sc (.bool (z3 t13)))] 93], 0⟩)) ∧ (((IntKind.wrap .u64 (Int.tdiv x189 (2 : Int))) == (0 : Int)) = false → (True ∧ (((True) ∧ (True) ∧ True) ∧ TripN cfg (cpath (Tryd.f35.body.getD .skip) [1, 1, 1, 1, 1, 1, 1, 1, 1, 1, 1, 1, 0, 0, 0]) n (halterref02_Add.l2_S t12 t13 x187 x188 (IntKind.wrap .u64 (Int.tdiv x189 (2 : Int))) (IntKind.wrap .i64 (x190 + (1 : Int))) true) (halterref02_Add.l2_Q t12 t13 r))))))))))))) ∧ (x191 = false → (((True) ∧ (True) ∧ True) ∧ halterref02_Add.l2_Q t12 t13 r (.exit 0) ⟨[.any, .any, .any, .any, .any, .v (.one (.ptr 0 ⟨0, 0, 0, 0⟩)), .v (.one (.ptr 1 ⟨0, 0, 0, 0⟩)), .v (.one (.sc (.bool x191))), .any, .any, .any, .any, .any, .any, .any, .any, .any, .any, .any, .any, .any, .any, .any, .any, .any, .any, .any, .any, .any, .any, .any, .any, .any, .any, .any, .any, .any, .any, .any, .any, .any, .any, .any, .any, .any, .any, .any, .any, .any, .any, .any, .any, .any, .any, .any, .any, .any, .any, .any, .any, .any, .any, .any, .any, .any, .any, .any, .any, .any, .any, .any, .any, .any, .any, .any, .any, .any, .any, .any, .any, .any, .any, .any, .any, .any, .any, .any, .any, .any, .any, .any, .any, .any, .any, .any, .any, .any, .any, .any, .any, .any, .any, .any, .any, .any, .any, .any, .any, .any, .any, .any, .any, .any, .any, .any, .any, .any, .any, .any, .any, .any, .any, .any, .any, .any, .any, .any, .any, .any, .any, .any, .any, .any, .any, .any, .any, .any, .any, .any, .any, .any, .any, .any, .any, .any, .any, .any, .any, .any, .any, .any, .any, .any, .any, .any, .any, .any, .any, .any, .any, .any, .any, .any, .any, .any, .any, .any, .any, .any, .any, .any, .any, .any, .any, .any, .any, .any, .any, .any, .any, .any, .any, .any, .any, .any, .any, .any, .any, .any, .any, .any], [.ex false [.c (.sc (.bool t12.1)), .c (.sc (.int .u64 x187)), .c (.sc (.int .i64 x188)), .c (.sc (.bool (z3 t12)))] 93, .ex false [.c (.sc (.bool t13.1)), .c (.sc (.int .u64 x189)), .c (.sc (.int .i64 x190)), .c (.sc (.bool (z3 t13)))] 93], 0⟩))))))) ∧ ((decide (x189 > (0 : Int))) = true → ((decide (x190 < x188)) = true ∧ ((decide (x189 > (0 : Int))) = true ∧ ((decide (x190 < x188)) = true ∧ (true = true ∧ (True) ∧ (True) ∧ (((decide (x187 < (2305843009213693952 : Int))) = true → (True ∧ (True) ∧ (True) ∧ (True) ∧ (True) ∧ (True) ∧ (True) ∧ (True ∧ (((True) ∧ (True) ∧ True) ∧ TripN cfg (cpath (Tryd.f35.body.getD .skip) [1, 1, 1, 1, 1, 1, 1, 1, 1, 1, 1, 1, 0, 0, 0]) n (halterref02_Add.l2_S t12 t13 (IntKind.wrap .u64 ((2 : Int) * x187)) (IntKind.wrap .i64 (x188 - (1 : Int))) x189 x190 x191) (halterref02_Add.l2_Q t12 t13 r))))) ∧ ((decide (x187 < (2305843009213693952 : Int))) = false → ((x191 = false → (x191 = false ∧ (True) ∧ (x191 = false ∧ ((2 : Int) ≠ 0) ∧ (x191 = false ∧ (True) ∧ (x191 = false ∧ (True) ∧ ((2 : Int) ≠ 0) ∧ (True) ∧ (True) ∧ (True) ∧ (True) ∧ (True) ∧ (True) ∧ ((((IntKind.wrap .u64 (Int.tdiv x189 (2 : Int))) == (0 : Int)) = true → (((True) ∧ (True) ∧ True) ∧ halterref02_Add.l2_Q t12 t13 r (.exit 0) ⟨[.any, .any, .any, .any, .any, .v (.one (.ptr 0 ⟨0, 0, 0, 0⟩)), .v (.one (.ptr 1 ⟨0, 0, 0, 0⟩)), .v (.one (.sc (.bool ((Int.tmod x189 (2 : Int)) == (1 : Int))))), .any, .any, .any, .any, .any, .any, .any, .any, .any, .any, .any, .any, .any, .any, .any, .any, .any, .any, .any, .any, .any, .any, .any, .any, .any, .any, .any, .any, .any, .any, .any, .any, .any, .any, .any, .any, .any, .any, .any, .any, .any, .any, .any, .any, .any, .any, .any, .any, .any, .any, .any, .any, .any, .any, .any, .any, .any, .any, .any, .any, .any, .any, .any, .any, .any, .any, .any, .any, .any, .any, .any, .any, .any, .any, .any, .any, .any, .any, .any, .any, .any, .any, .any, .any, .any, .any, .any, .any, .any, .any, .any, .any, .any, .any, .any, .any, .any, .any, .any, .any, .any, .any, .any, .any, .any, .any, .any, .any, .any, .any, .any, .any, .any, .any, .any, .any, .any, .any, .any, .any, .any, .any, .any, .any, .any, .any, .any, .any, .any, .any, .any, .any, .any, .any, .any, .any, .any, .any, .any, .any, .any, .any, .any, .any, .any, .any, .any, .any, .any, .any, .any, .any, .any, .any, .any, .any, .any, .any, .any, .any, .any, .any, .any, .any, .any, .any, .any, .any, .any, .any, .any, .any, .any, .any, .any, .any, .any, .any, .any, .any, .any, .any, .any], [.ex false [.c (.sc (.bool t12.1)), .c (.sc (.int .u64 x187)), .c (.sc (.int .i64 x188)), .c (.sc (.bool (z3 t12)))] 93, .ex false [.c (.sc (.bool t13.1)), .c (.sc (.int .u64 (IntKind.wrap .u64 (Int.tdiv x189 (2 : Int))))), .c (.sc (.int .i64 (IntKind.wrap .i64 (x190 + (1 : Int))))), .c (.sc (.bool (z3 t13)))] 93], 0⟩)) ∧ (((IntKind.wrap .u64 (Int.tdiv x189 (2 : Int))) == (0 : Int)) = false → (True ∧ (((True) ∧ (True) ∧ True) ∧ TripN cfg (cpath (Tryd.f35.body.getD .skip) [1, 1, 1, 1, 1, 1, 1, 1, 1, 1, 1, 1, 0, 0, 0]) n (halterref02_Add.l2_S t12 t13 x187 x188 (IntKind.wrap .u64 (Int.tdiv x189 (2 : Int))) (IntKind.wrap .i64 (x190 + (1 : Int))) ((Int.tmod x189 (2 : Int)) == (1 : Int))) (halterref02_Add.l2_Q t12 t13 r)))))))))) ∧ (x191 = true → (x191 = true ∧ (x191 = true ∧ (x191 = true ∧ (x191 = true ∧ (True) ∧ ((2 : Int) ≠ 0) ∧ (True) ∧ (True) ∧ (True) ∧ (True) ∧ (True) ∧ (True) ∧ ((((IntKind.wrap .u64 (Int.tdiv x189 (2 : Int))) == (0 : Int)) = true → (((True) ∧ (True) ∧ True) ∧ halterref02_Add.l2_Q t12 t13 r (.exit 0) ⟨[.any, .any, .any, .any, .any, .v (.one (.ptr 0 ⟨0, 0, 0, 0⟩)), .v (.one (.ptr 1 ⟨0, 0, 0, 0⟩)), .v (.one (.sc (.bool true))), .any, .any, .any, .any, .any, .any, .any, .any, .any, .any, .any, .any, .any, .any, .any, .any, .any, .any, .any, .any, .any, .any, .any, .any, .any, .any, .any, .any, .any, .any, .any, .any, .any, .any, .any, .any, .any, .any, .any, .any, .any, .any, .any, .any, .any, .any, .any, .any, .any, .any, .any, .any, .any, .any, .any, .any, .any, .any, .any, .any, .any, .any, .any, .any, .any, .any, .any, .any, .any, .any, .any, .any, .any, .any, .any, .any, .any, .any, .any, .any, .any, .any, .any, .any, .any, .any, .any, .any, .any, .any, .any, .any, .any, .any, .any, .any, .any, .any, .any, .any, .any, .any, .any, .any, .any, .any, .any, .any, .any, .any, .any, .any, .any, .any, .any, .any, .any, .any, .any, .any, .any, .any, .any, .any, .any, .any, .any, .any, .any, .any, .any, .any, .any, .any, .any, .any, .any, .any, .any, .any, .any, .any, .any, .any, .any, .any, .any, .any, .any, .any, .any, .any, .any, .any, .any, .any, .any, .any, .any, .any, .any, .any, .any, .any, .any, .any, .any, .any, .any, .any, .any, .any, .any, .any, .any, .any, .any, .any, .any, .any, .any, .any, .any], [.ex false [.c (.sc (.bool t12.1)), .c (.sc (.int .u64 x187)), .c (.sc (.int .i64 x188)), .c (.sc (.bool (z3 t12)))] 93, .ex false [.c (.sc (.bool t13.1)), .c (.sc (.int .u64 (IntKind.wrap .u64 (Int.tdiv x189 (2 : Int))))), .c (.sc (.int .i64 (IntKind.wrap .i64 (x190 + (1 : Int))))), .c (.sc (.bool (z3 t13)))] 93], 0⟩)) ∧ (((IntKind.wrap .u64 (Int.tdiv x189 (2 : Int))) == (0 : Int)) = false → (True ∧ (((True) ∧ (True) ∧ True) ∧ TripN cfg (cpath (Tryd.f35.body.getD .skip) [1, 1, 1, 1, 1, 1, 1, 1, 1, 1, 1, 1, 0, 0, 0]) n (halterref02_Add.l2_S t12 t13 x187 x188 (IntKind.wrap .u64 (Int.tdiv x189 (2 : Int))) (IntKind.wrap .i64 (x190 + (1 : Int))) true) (halterref02_Add.l2_Q t12 t13 r))))))))))))))))))))))) ∧ ((decide (x190 < x188)) = false → ((decide (x190 < x188)) = false ∧ ((decide (x190 < x188)) = false ∧ ((decide (x190 < x188)) = false ∧ ((decide (x190 < x188)) = false ∧ ((decide (x190 < x188)) = false ∧ (false = false ∧ (((True) ∧ (True) ∧ True) ∧ halterref02_Add.l2_Q t12 t13 r (.exit 0) ⟨[.any, .any, .any, .any, .any, .v (.one (.ptr 0 ⟨0, 0, 0, 0⟩)), .v (.one (.ptr 1 ⟨0, 0, 0, 0⟩)), .v (.one (.sc (.bool x191))), .any, .any, .any, .any, .any, .any, .any, .any, .any, .any, .any, .any, .any, .any, .any, .any, .any, .any, .any, .any, .any, .any, .any, .any, .any, .any, .any, .any, .any, .any, .any, .any, .any, .any, .any, .any, .any, .any, .any, .any, .any, .any, .any, .any, .any, .any, .any, .any, .any, .any, .any, .any, .any, .any, .any, .any, .any, .any, .any, .any, .any, .any, .any, .any, .any, .any, .any, .any, .any, .any, .any, .any, .any, .any, .any, .any, .any, .any, .any, .any, .any, .any, .any, .any, .any, .any, .any, .any, .any, .any, .any, .any, .any, .any, .any, .any, .any, .any, .any, .any, .any, .any, .any, .any, .any, .any, .any, .any, .any, .any, .any, .any, .any, .any, .any, .any, .any, .any, .any, .any, .any, .any, .any, .any, .any, .any, .any, .any, .any, .any, .any, .any, .any, .any, .any, .any, .any, .any, .any, .any, .any, .any, .any, .any, .any, .any, .any, .any, .any, .any, .any, .any, .any, .any, .any, .any, .any, .any, .any, .any, .any, .any, .any, .any, .any, .any, .any, .any, .any, .any, .any, .any, .any, .any, .any, .any, .any, .any, .any, .any, .any, .any, .any], [.ex false [.c (.sc (.bool t12.1)), .c (.sc (.int .u64 x187)), .c (.sc (.int .i64 x188)), .c (.sc (.bool (z3 t12)))] 93, .ex false [.c (.sc (.bool t13.1)), .c (.sc (.int .u64 x189)), .c (.sc (.int .i64 x190)), .c (.sc (.bool (z3 t13)))] 93], 0⟩)))))))))) (by kernel_rfl) ?_)
    refine ⟨trivial, trivial, trivial, ?_⟩
    refine ⟨fun b207 => ?_, fun b207 => ?_⟩
    · rw [if_pos (of_decide_eq_true b207)] at h
      refine ⟨b207, ?_⟩
      refine ⟨trivial, ?_⟩
      refine ⟨b207, ?_⟩
      refine ⟨trivial, ?_⟩
      refine ⟨b207, ?_⟩
      refine ⟨fun b208 => ?_, fun b208 => ?_⟩
      · rw [if_neg (of_decide_eq_false b208)] at h
        refine ⟨b207, ?_⟩
        refine ⟨b208, ?_⟩
        refine ⟨b207, ?_⟩
        refine ⟨fun b213 => ?_, fun b213 => ?_⟩
        · rw [if_pos b213] at h
          refine ⟨trivial, trivial, ?_⟩
          refine ⟨fun b214 => ?_, fun b214 => ?_⟩
          · rw [if_pos (of_decide_eq_true b214)] at h
            refine ⟨trivial, trivial, trivial, trivial, trivial, trivial, trivial, trivial, ?_⟩
            exact ⟨⟨trivial, trivial, trivial⟩, ih (IntKind.wrap .u64 ((2 : Int) * x187)) (IntKind.wrap .i64 (x188 - (1 : Int))) x189 x190 x191 r h⟩
          · rw [if_neg (of_decide_eq_false b214)] at h
            refine ⟨b213, ?_⟩
            refine ⟨b213, ?_⟩
            refine ⟨b213, ?_⟩
            refine ⟨b213, ?_⟩
            refine ⟨b213, ?_⟩
            refine ⟨trivial, ?_⟩
            refine ⟨(by decide), ?_⟩
            refine ⟨trivial, trivial, trivial, trivial, trivial, trivial, ?_⟩
            refine ⟨fun b215 => ?_, fun b215 => ?_⟩
            · rw [if_pos (beq_t b215)] at h
              obtain rfl := Option.some.inj h
              exact ⟨⟨trivial, trivial, trivial⟩, rfl, rfl⟩
            · rw [if_neg (beq_f b215)] at h
              refine ⟨trivial, ?_⟩
              exact ⟨⟨trivial, trivial, trivial⟩, ih x187 x188 (IntKind.wrap .u64 (Int.tdiv x189 (2 : Int))) (IntKind.wrap .i64 (x190 + (1 : Int))) true r h⟩
        · rw [if_neg (ff b213)] at h
          obtain rfl := Option.some.inj h
          exact ⟨⟨trivial, trivial, trivial⟩, rfl, rfl⟩
      · rw [if_pos (of_decide_eq_true b208)] at h
        refine ⟨b207, ?_⟩
        refine ⟨b208, ?_⟩
        refine ⟨b207, ?_⟩
        refine ⟨rfl, trivial, trivial, ?_⟩
        refine ⟨fun b209 => ?_, fun b209 => ?_⟩
        · rw [if_pos (of_decide_eq_true b209)] at h
          refine ⟨trivial, trivial, trivial, trivial, trivial, trivial, trivial, trivial, ?_⟩
          exact ⟨⟨trivial, trivial, trivial⟩, ih (IntKind.wrap .u64 ((2 : Int) * x187)) (IntKind.wrap .i64 (x188 - (1 : Int))) x189 x190 x191 r h⟩
        · rw [if_neg (of_decide_eq_false b209)] at h
          refine ⟨fun b210 => ?_, fun b210 => ?_⟩
          · rw [if_neg (ff b210)] at h
            refine ⟨b210, ?_⟩
            refine ⟨trivial, ?_⟩
            refine ⟨b210, ?_⟩
            refine ⟨(by decide), ?_⟩
            refine ⟨b210, ?_⟩
            refine ⟨trivial, ?_⟩
            refine ⟨b210, ?_⟩
            refine ⟨trivial, ?_⟩
            refine ⟨(by decide), ?_⟩
            refine ⟨trivial, trivial, trivial, trivial, trivial, trivial, ?_⟩
            refine ⟨fun b212 => ?_, fun b212 => ?_⟩
            · rw [if_pos (beq_t b212)] at h
              obtain rfl := Option.some.inj h
              exact ⟨⟨trivial, trivial, trivial⟩, rfl, rfl⟩
            · rw [if_neg (beq_f b212)] at h
              refine ⟨trivial, ?_⟩
              exact ⟨⟨trivial, trivial, trivial⟩, ih x187 x188 (IntKind.wrap .u64 (Int.tdiv x189 (2 : Int))) (IntKind.wrap .i64 (x190 + (1 : Int))) ((Int.tmod x189 (2 : Int)) == (1 : Int)) r h⟩
          · rw [if_pos b210] at h
            refine ⟨b210, ?_⟩
            refine ⟨b210, ?_⟩
            refine ⟨b210, ?_⟩
            refine ⟨b210, ?_⟩
            refine ⟨trivial, ?_⟩
            refine ⟨(by decide), ?_⟩
            refine ⟨trivial, trivial, trivial, trivial, trivial, trivial, ?_⟩
            refine ⟨fun b211 => ?_, fun b211 => ?_⟩
            · rw [if_pos (beq_t b211)] at h
              obtain rfl := Option.some.inj h
              exact ⟨⟨trivial, trivial, trivial⟩, rfl, rfl⟩
            · rw [if_neg (beq_f b211)] at h
              refine ⟨trivial, ?_⟩
              exact ⟨⟨trivial, trivial, trivial⟩, ih x187 x188 (IntKind.wrap .u64 (Int.tdiv x189 (2 : Int))) (IntKind.wrap .i64 (x190 + (1 : Int))) true r h⟩
    · rw [if_neg (of_decide_eq_false b207)] at h
      refine ⟨b207, ?_⟩
      refine ⟨b207, ?_⟩
      refine ⟨b207, ?_⟩
      refine ⟨b207, ?_⟩
      refine ⟨b207, ?_⟩
      refine ⟨rfl, ?_⟩
      obtain rfl := Option.some.inj h
      exact ⟨⟨trivial, trivial, trivial⟩, rfl, rfl⟩
def halterref02_Add.l3 (t12 : Bool × Int × Int × Bool) (t13 : Bool × Int × Int × Bool) : Nat → Int → Int → Int → Int → Bool → Option (TY0)
  | 0, _, _, _, _, _ => none
  | n + 1, x258, x259, x260, x261, x262 =>
    if x261 < x259 then
      if x260 > (0 : Int) then
        if x258 < (2305843009213693952 : Int) then
          halterref02_Add.l3 t12 t13 n (IntKind.wrap .u64 ((2 : Int) * x258)) (IntKind.wrap .i64 (x259 - (1 : Int))) x260 x261 x262
        else
          if x262 = true then
            if (IntKind.wrap .u64 (Int.tdiv x260 (2 : Int))) = (0 : Int) then
              some (x258, x259, (IntKind.wrap .u64 (Int.tdiv x260 (2 : Int))), (IntKind.wrap .i64 (x261 + (1 : Int))), true)
            else
              halterref02_Add.l3 t12 t13 n x258 x259 (IntKind.wrap .u64 (Int.tdiv x260 (2 : Int))) (IntKind.wrap .i64 (x261 + (1 : Int))) true
          else
            if (IntKind.wrap .u64 (Int.tdiv x260 (2 : Int))) = (0 : Int) then
              some (x258, x259, (IntKind.wrap .u64 (Int.tdiv x260 (2 : Int))), (IntKind.wrap .i64 (x261 + (1 : Int))), ((Int.tmod x260 (2 : Int)) == (1 : Int)))
            else
              halterref02_Add.l3 t12 t13 n x258 x259 (IntKind.wrap .u64 (Int.tdiv x260 (2 : Int))) (IntKind.wrap .i64 (x261 + (1 : Int))) ((Int.tmod x260 (2 : Int)) == (1 : Int))
      else
        if x262 = true then
          if x258 < (2305843009213693952 : Int) then
            halterref02_Add.l3 t12 t13 n (IntKind.wrap .u64 ((2 : Int) * x258)) (IntKind.wrap .i64 (x259 - (1 : Int))) x260 x261 x262
          else
            if (IntKind.wrap .u64 (Int.tdiv x260 (2 : Int))) = (0 : Int) then
              some (x258, x259, (IntKind.wrap .u64 (Int.tdiv x260 (2 : Int))), (IntKind.wrap .i64 (x261 + (1 : Int))), true)
            else
              halterref02_Add.l3 t12 t13 n x258 x259 (IntKind.wrap .u64 (Int.tdiv x260 (2 : Int))) (IntKind.wrap .i64 (x261 + (1 : Int))) true
        else
          some (x258, x259, x260, x261, x262)
    else
      some (x258, x259, x260, x261, x262)
def halterref02_Add.l3_S (t12 : Bool × Int × Int × Bool) (t13 : Bool × Int × Int × Bool) (x258 : Int) (x259 : Int) (x260 : Int) (x261 : Int) (x262 : Bool) : St := ⟨[.any, .any, .any, .any, .any, .v (.one (.ptr 0 ⟨0, 0, 0, 0⟩)), .v (.one (.ptr 1 ⟨0, 0, 0, 0⟩)), .v (.one (.sc (.bool x262))), .any, .any, .any, .any, .any, .any, .any, .any, .any, .any, .any, .any, .any, .any, .any, .any, .any, .any, .any, .any, .any, .any, .any, .any, .any, .any, .any, .any, .any, .any, .any, .any, .any, .any, .any, .any, .any, .any, .any, .any, .any, .any, .any, .any, .any, .any, .any, .any, .any, .any, .any, .any, .any, .any, .any, .any, .any, .any, .any, .any, .any, .any, .any, .any, .any, .any, .any, .any, .any, .any, .any, .any, .any, .any, .any, .any, .any, .any, .any, .any, .any, .any, .any, .any, .any, .any, .any, .any, .any, .any, .any, .any, .any, .any, .any, .any, .any, .any, .any, .any, .any, .any, .any, .any, .any, .any, .any, .any, .any, .any, .any, .any, .any, .any, .any, .any, .any, .any, .any, .any, .any, .any, .any, .any, .any, .any, .any, .any, .any, .any, .any, .any, .any, .any, .any, .any, .any, .any, .any, .any, .any, .any, .any, .any, .any, .any, .any, .any, .any, .any, .any, .any, .any, .any, .any, .any, .any, .any, .any, .any, .any, .any, .any, .any, .any, .any, .any, .any, .any, .any, .any, .any, .any, .any, .any, .any, .any, .any, .any, .any, .any, .any, .any], [.ex false [.c (.sc (.bool t12.1)), .c (.sc (.int .u64 x258)), .c (.sc (.int .i64 x259)), .c (.sc (.bool t12.2.2.2))] 93, .ex false [.c (.sc (.bool t13.1)), .c (.sc (.int .u64 x260)), .c (.sc (.int .i64 x261)), .c (.sc (.bool t13.2.2.2))] 93], 0⟩
def halterref02_Add.l3_Q (t12 : Bool × Int × Int × Bool) (t13 : Bool × Int × Int × Bool) (t : TY0) : Exit → St → Prop := fun e s => e = (.exit 0) ∧ s = ⟨[.any, .any, .any, .any, .any, .v (.one (.ptr 0 ⟨0, 0, 0, 0⟩)), .v (.one (.ptr 1 ⟨0, 0, 0, 0⟩)), .v (.one (.sc (.bool t.2.2.2.2))), .any, .any, .any, .any, .any, .any, .any, .any, .any, .any, .any, .any, .any, .any, .any, .any, .any, .any, .any, .any, .any, .any, .any, .any, .any, .any, .any, .any, .any, .any, .any, .any, .any, .any, .any, .any, .any, .any, .any, .any, .any, .any, .any, .any, .any, .any, .any, .any, .any, .any, .any, .any, .any, .any, .any, .any, .any, .any, .any, .any, .any, .any, .any, .any, .any, .any, .any, .any, .any, .any, .any, .any, .any, .any, .any, .any, .any, .any, .any, .any, .any, .any, .any, .any, .any, .any, .any, .any, .any, .any, .any, .any, .any, .any, .any, .any, .any, .any, .any, .any, .any, .any, .any, .any, .any, .any, .any, .any, .any, .any, .any, .any, .any, .any, .any, .any, .any, .any, .any, .any, .any, .any, .any, .any, .any, .any, .any, .any, .any, .any, .any, .any, .any, .any, .any, .any, .any, .any, .any, .any, .any, .any, .any, .any, .any, .any, .any, .any, .any, .any, .any, .any, .any, .any, .any, .any, .any, .any, .any, .any, .any, .any, .any, .any, .any, .any, .any, .any, .any, .any, .any, .any, .any, .any, .any, .any, .any, .any, .any, .any, .any, .any, .any], [.ex false [.c (.sc (.bool t12.1)), .c (.sc (.int .u64 t.1)), .c (.sc (.int .i64 t.2.1)), .c (.sc (.bool t12.2.2.2))] 93, .ex false [.c (.sc (.bool t13.1)), .c (.sc (.int .u64 t.2.2.1)), .c (.sc (.int .i64 t.2.2.2.1)), .c (.sc (.bool t13.2.2.2))] 93], 0⟩
theorem halterref02_Add.l3_ok (t12 : Bool × Int × Int × Bool) (t13 : Bool × Int × Int × Bool) : ∀ (n : Nat) (x258 : Int) (x259 : Int) (x260 : Int) (x261 : Int) (x262 : Bool) (r : TY0), halterref02_Add.l3 t12 t13 n x258 x259 x260 x261 x262 = some r → TripN cfg (cpath (Tryd.f35.body.getD .skip) [1, 1, 1, 1, 1, 1, 1, 1, 1, 1, 1, 1, 0, 0, 0]) n (halterref02_Add.l3_S t12 t13 x258 x259 x260 x261 x262) (halterref02_Add.l3_Q t12 t13 r) := by
  intro n
  induction n with
  | zero => intro x258 x259 x260 x261 x262 r h; cases h
  | succ n ih =>
    intro x258 x259 x260 x261 x262 r h
    rw [halterref02_Add.l3] at h
    refine TripN.of_run cfg_ok (k := (.br (oT 3 (.br (oT 4 (.br (aE 2 (.adj [.keep [5, 6, 7], .drop 2] .nil)) (.br (oT 4 (.br (.adj [.keep [5, 6, 7], .drop 2] .nil) (.adj [] (.adj [.keep [5, 6, 7], .drop 2] .nil)))) (oF 4 (.br (.adj [.keep [5, 6, 7], .drop 2] .nil) (.adj [] (.adj [.keep [5, 6, 7], .drop 2] .nil))))))) (.one true (.one false (.one true (.br (.br (aE 2 (.adj [.keep [5, 6, 7], .drop 2] .nil)) (oT 5 (.br (.adj [.keep [5, 6, 7], .drop 2] .nil) (.adj [] (.adj [.keep [5, 6, 7], .drop 2] .nil))))) (.adj [.keep [5, 6, 7], .drop 2] .nil))))))) (oF 6 (.adj [.keep [5, 6, 7], .drop 2] .nil)))) (to_goal (q := (True) ∧ (True) ∧ (True) ∧ (((decide (x261 < x259)) = true → ((decide (x261 < x259)) = true ∧ (True) ∧ ((decide (x261 < x259)) = true ∧ (True) ∧ ((decide (x261 < x259)) = true ∧ (((decide (x260 > (0 : Int))) = false → ((decide (x261 < x259)) = true ∧ ((decide (x260 > (0 : Int))) = false ∧ ((decide (x261 < x259)) = true ∧ ((x262 = true → (True) ∧ (True) ∧ (((decide (x258 < (2305843009213693952 : Int))) = true → (True ∧ (True) ∧ (True) ∧ (True) ∧ (True) ∧ (True) ∧ (True) ∧ (True ∧ (((True) ∧ (True) ∧ True) ∧ TripN cfg (cpath (Tryd.f35.body.getD .skip) [1, 1, 1, 1, 1, 1, 1, 1, 1, 1, 1, 1, 0, 0, 0]) n (halterref02_Add.l3_S t12 t13 (IntKind.wrap .u64 ((2 : Int) * x258)) (IntKind.wrap .i64 (x259 - (1 : Int))) x260 x261 x262) (halterref02_Add.l3_Q t12 t13 r))))) ∧ ((decide (x258 < (2305843009213693952 : Int))) = false → (x262 = true ∧ (x262 = true ∧ (x262 = true ∧ (x262 = true ∧ (x262 = true ∧ (True) ∧ ((2 : Int) ≠ 0) ∧ (True) ∧ (True) ∧ (True) ∧ (True) ∧ (True) ∧ (True) ∧ ((((IntKind.wrap .u64 (Int.tdiv x260 (2 : Int))) == (0 : Int)) = true → (((True) ∧ (True) ∧ True) ∧ halterref02_Add.l3_Q t12 t13 r (.exit 0) ⟨[.any, .any, .any, .any, .any, .v (.one (.ptr 0 ⟨0, 0, 0, 0⟩)), .v (.one (.ptr 1 ⟨0, 0, 0, 0⟩)), .v (.one (.sc (.bool true))), .any, .any, .any, .any, .any, .any, .any, .any, .any, .any, .any, .any, .any, .any, .any, .any, .any, .any, .any, .any, .any, .any, .any, .any, .any, .any, .any, .any, .any, .any, .any, .any, .any, .any, .any, .any, .any, .any, .any, .any, .any, .any, .any, .any, .any, .any, .any, .any, .any, .any, .any, .any, .any, .any, .any, .any, .any, .any, .any, .any, .any, .any, .any, .any, .any, .any, .any, .any, .any, .any, .any, .any, .any, .any, .any, .any, .any, .any, .any, .any, .any, .any, .any, .any, .any, .any, .any, .any, .any, .any, .any, .any, .any, .any, .any, .any, .any, .any, .any, .any, .any, .any, .any, .any, .any, .any, .any, .any, .any, .any, .any, .any, .any, .any, .any, .any, .any, .any, .any, .any, .any, .any, .any, .any, .any, .any, .any, .any, .any, .any, .any, .any, .any, .any, .any, .any, .any, .any, .any, .any, .any, .any, .any, .any, .any, .any, .any, .any, .any, .any, .any, .any, .any, .any, .any, .any, .any, .any, .any, .any, .any, .any, .any, .any, .any, .any, .any, .any, .any, .any, .any, .any, .any, .any, .any, .any, .any, .any, .any, .any, .any, .any, .any], [.ex false [.c (.sc (.bool t12.1)), .c (.sc (.int .u64 x258)), .c (.sc (.int .i64 x259)), .c (.sc (.bool (z3 t12)))] 93, .ex false [.c (.sc (.bool t13.1)), .c (.sc (.int .u64 (IntKind.wrap .u64 (Int.tdiv x260 (2 : Int))))), .c (.sc (.int .i64 (IntKind.wrap .i64 (x261 + (1 : Int))))), .c (.sc (.bool (z3 t13)))] 93], 0⟩)) ∧ (((IntKind.wrap .u64 (Int.tdiv x260 (2 : Int))) == (0 : Int)) = false → (True ∧ (((True) ∧ (True) ∧ True) ∧ TripN cfg (cpath (Tryd.f35.body.getD .skip) [1, 1, 1, 1, 1, 1, 1, 1, 1, 1, 1, 1, 0, 0, 0]) n (halterref02_Add.l3_S t12 t13 x258 x259 (IntKind.wrap .u64 (Int.tdiv x260 (2 : Int))) (IntKind.wrap .i64 (x261 + (1 : Int))) true) (halterref02_Add.l3_Q t12 t13 r))))))))))))) ∧ (x262 = false → (((True) ∧ (True) ∧ True) ∧ halterref02_Add.l3_Q t12 t13 r (.exit 0) ⟨[.any, .any, .any, .any, .any, .v (.one (.ptr 0 ⟨0, 0, 0, 0⟩)), .v (.one (.ptr 1 ⟨0, 0, 0, 0⟩)), .v (.one (.sc (.bool x262))), .any, .any, .any, .any, .any, .any, .any, .any, .any, .any, .any, .any, .any, .any, .any, .any, .any, .any, .any, .any, .any, .any, .any, .any, .any, .any, .any, .any, .any, .any, .any, .any, .any, .any, .any, .any, .any, .any, .any, .any, .any, .any, .any, .any, .any, .any, .any, .any, .any, .any, .any, .any, .any, .any, .any, .any, .any, .any, .any, .any, .any, .any, .any, .any, .any, .any, .any, .any, .any, .any, .any, .any, .any, .any, .any, .any, .any, .any, .any, .any, .any, .any, .any, .any, .any, .any, .any, .any, .any, .any, .any, .any, .any, .any, .any, .any, .any, .any, .any, .any, .any, .any, .any, .any, .any, .any, .any, .any, .any, .any, .any, .any, .any, .any, .any, .any, .any, .any, .any, .any, .any, .any, .any, .any, .any, .any, .any, .any, .any, .any, .any, .any, .any, .any, .any, .any, .any, .any, .any, .any, .any, .any, .any, .any, .any, .any, .any, .any, .any, .any, .any, .any, .any, .any, .any, .any, .any, .any, .any, .any, .any, .any, .any, .any, .any, .any, .any, .any, .any, .any, .any, .any, .any, .any, .any, .any, .any, .any, .any, .any, .any, .any, .any], [.ex false [.c (.sc (.bool t12.1)), .c (.sc (.int .u64 x258)), .c (.sc (.int .i64 x259)), .c (.sc (.bool (z3 t12)))] 93, .ex false [.c (.sc (.bool t13.1)), .c (.sc (.int .u64 x260)), .c (.sc (.int .i64 x261)), .c (.sc (.bool (z3 t13)))] 93], 0⟩))))))) ∧ ((decide (x260 > (0 : Int))) = true → ((decide (x261 < x259)) = true ∧ ((decide (x260 > (0 : Int))) = true ∧ ((decide (x261 < x259)) = true ∧ (true = true ∧ (True) ∧ (True) ∧ (((decide (x258 < (2305843009213693952 : Int))) = true → (True ∧ (True) ∧ (True) ∧ (True) ∧ (True) ∧ (True) ∧ (True) ∧ (True ∧ (((True) ∧ (True) ∧ True) ∧ TripN cfg (cpath (Tryd.f35.body.getD .skip) [1, 1, 1, 1, 1, 1, 1, 1, 1, 1, 1, 1, 0, 0, 0]) n (halterref02_Add.l3_S t12 t13 (IntKind.wrap .u64 ((2 : Int) * x258)) (IntKind.wrap .i64 (x259 - (1 : Int))) x260 x261 x262) (halterref02_Add.l3_Q t12 t13 r))))) ∧ ((decide (x258 < (2305843009213693952 : Int))) = false → ((x262 = false → (x262 = false ∧ (True) ∧ (x262 = false ∧ ((2 : Int) ≠ 0) ∧ (x262 = false ∧ (True) ∧ (x262 = false ∧ (True) ∧ ((2 : Int) ≠ 0) ∧ (True) ∧ (True) ∧ (True) ∧ (True) ∧ (True) ∧ (True) ∧ ((((IntKind.wrap .u64 (Int.tdiv x260 (2 : Int))) == (0 : Int)) = true → (((True) ∧ (True) ∧ True) ∧ halterref02_Add.l3_Q t12 t13 r (.exit 0) ⟨[.any, .any, .any, .any, .any, .v (.one (.ptr 0 ⟨0, 0, 0, 0⟩)), .v (.one (.ptr 1 ⟨0, 0, 0, 0⟩)), .v (.one (.sc (.bool ((Int.tmod x260 (2 : Int)) == (1 : Int))))), .any, .any, .any, .any, .any, .any, .any, .any, .any, .any, .any, .any, .any, .any, .any, .any, .any, .any, .any, .any, .any, .any, .any, .any, .any, .any, .any, .any, .any, .any, .any, .any, .any, .any, .any, .any, .any, .any, .any, .any, .any, .any, .any, .any, .any, .any, .any, .any, .any, .any, .any, .any, .any, .any, .any, .any, .any, .any, .any, .any, .any, .any, .any, .any, .any, .any, .any, .any, .any, .any, .any, .any, .any, .any, .any, .any, .any, .any, .any, .any, .any, .any, .any, .any, .any, .any, .any, .any, .any, .any, .any, .any, .any, .any, .any, .any, .any, .any, .any, .any, .any, .any, .any, .any, .any, .any, .any, .any, .any, .any, .any, .any, .any, .any, .any, .any, .any, .any, .any, .any, .any, .any, .any, .any, .any, .any, .any, .any, .any, .any, .any, .any, .any, .any, .any, .any, .any, .any, .any, .any, .any, .any, .any, .any, .any, .any, .any, .any, .any, .any, .any, .any, .any, .any, .any, .any, .any, .any, .any, .any, .any, .any, .any, .any, .any, .any, .any, .any, .any, .any, .any, .any, .any, .any, .any, .any, .any, .any, .any, .any, .any, .any, .any], [.ex false [.c (.sc (.bool t12.1)), .c (.sc (.int .u64 x258)), .c (.sc (.int .i64 x259)), .c (.sc (.bool (z3 t12)))] 93, .ex false [.c (.sc (.bool t13.1)), .c (.sc (.int .u64 (IntKind.wrap .u64 (Int.tdiv x260 (2 : Int))))), .c (.sc (.int .i64 (IntKind.wrap .i64 (x261 + (1 : Int))))), .c (.sc (.bool (z3 t13)))] 93], 0⟩)) ∧ (((IntKind.wrap .u64 (Int.tdiv x260 (2 : Int))) == (0 : Int)) = false → (True ∧ (((True) ∧ (True) ∧ True) ∧ TripN cfg (cpath (Tryd.f35.body.getD .skip) [1, 1, 1, 1, 1, 1, 1, 1, 1, 1, 1, 1, 0, 0, 0]) n (halterref02_Add.l3_S t12 t13 x258 x259 (IntKind.wrap .u64 (Int.tdiv x260 (2 : Int))) (IntKind.wrap .i64 (x261 + (1 : Int))) ((Int.tmod x260 (2 : Int)) == (1 : Int))) (halterref02_Add.l3_Q t12 t13 r)))))))))) ∧ (x262 = true → (x262 = true ∧ (x262 = true ∧ (x262 = true ∧ (x262 = true ∧ (True) ∧ ((2 : Int) ≠ 0) ∧ (True) ∧ (True) ∧ (True) ∧ (True) ∧ (True) ∧ (True) ∧ ((((IntKind.wrap .u64 (Int.tdiv x260 (2 : Int))) == (0 : Int)) = true → (((True) ∧ (True) ∧ True) ∧ halterref02_Add.l3_Q t12 t13 r (.exit 0) ⟨[.any, .any, .any, .any, .any, .v (.one (.ptr 0 ⟨0, 0, 0, 0⟩)), .v (.one (.ptr 1 ⟨0, 0, 0, 0⟩)), .v (.one (.sc (.bool true))), .any, .any, .any, .any, .any, .any, .any, .any, .any, .any, .any, .any, .any, .any, .any, .any, .any, .any, .any, .any, .any, .any, .any, .any, .any, .any, .any, .any, .any, .any, .any, .any, .any, .any, .any, .any, .any, .any, .any, .any, .any, .any, .any, .any, .any, .any, .any, .any, .any, .any, .any, .any, .any, .any, .any, .any, .any, .any, .any, .any, .any, .any, .any, .any, .any, .any, .any, .any, .any, .any, .any, .any, .any, .any, .any, .any, .any, .any, .any, .any, .any, .any, .any, .any, .any, .any, .any, .any, .any, .any, .any, .any, .any, .any, .any, .any, .any, .any, .any, .any, .any, .any, .any, .any, .any, .any, .any, .any, .any, .any, .any, .any, .any, .any, .any, .any, .any, .any, .any, .any, .any, .any, .any, .any, .any, .any, .any, .any, .any, .any, .any, .any, .any, .any, .any, .any, .any, .any, .any, .any, .any, .any, .any, .any, .any, .any, .any, .any, .any, .any, .any, .any, .any, .any, .any, .any, .any, .any, .any, .any, .any, .any, .any, .any, .any, .any, .any, .any, .any, .any, .any, .any, .any, .any, .any, .any, .any, .any, .any, .any, .any, .any, .any], [.ex false [.c (.sc (.bool t12.1)), .c (.sc (.int .u64 x258)), .c (.sc (.int .i64 x259)), .c (.sc (.bool (z3 t12)))] 93, .ex false [.c (.sc (.bool t13.1)), .c (.sc (.int .u64 (IntKind.wrap .u64 (Int.tdiv x260 (2 : Int))))), .c (.sc (.int .i64 (IntKind.wrap .i64 (x261 + (1 : Int))))), .c (.sc (.bool (z3 t13)))] 93], 0⟩)) ∧ (((IntKind.wrap .u64 (Int.tdiv x260 (2 : Int))) == (0 : Int)) = false → (True ∧ (((True) ∧ (True) ∧ True) ∧ TripN cfg (cpath (Tryd.f35.body.getD .skip) [1, 1, 1, 1, 1, 1, 1, 1, 1, 1, 1, 1, 0, 0, 0]) n (halterref02_Add.l3_S t12 t13 x258 x259 (IntKind.wrap .u64 (Int.tdiv x260 (2 : Int))) (IntKind.wrap .i64 (x261 + (1 : Int))) true) (halterref02_Add.l3_Q t12 t13 r))))))))))))))))))))))) ∧ ((decide (x261 < x259)) = false → ((decide (x261 < x259)) = false ∧ ((decide (x261 < x259)) = false ∧ ((decide (x261 < x259)) = false ∧ ((decide (x261 < x259)) = false ∧ ((decide (x261 < x259)) = false ∧ (false = false ∧ (((True) ∧ (True) ∧ True) ∧ halterref02_Add.l3_Q t12 t13 r (.exit 0) ⟨[.any, .any, .any, .any, .any, .v (.one (.ptr 0 ⟨0, 0, 0, 0⟩)), .v (.one (.ptr 1 ⟨0, 0, 0, 0⟩)), .v (.one (.sc (.bool x262))), .any, .any, .any, .any, .any, .any, .any, .any, .any, .any, .any, .any, .any, .any, .any, .any, .any, .any, .any, .any, .any, .any, .any, .any, .any, .any, .any, .any, .any, .any, .any, .any, .any, .any, .any, .any, .any, .any, .any, .any, .any, .any, .any, .any, .any, .any, .any, .any, .any, .any, .any, .any, .any, .any, .any, .any, .any, .any, .any, .any, .any, .any, .any, .any, .any, .any, .any, .any, .any, .any, .any, .any, .any, .any, .any, .any, .any, .any, .any, .any, .any, .any, .any, .any, .any, .any, .any, .any, .any, .any, .any, .any, .any, .any, .any, .any, .any, .any, .any, .any, .any, .any, .any, .any, .any, .any, .any, .any, .any, .any, .any, .any, .any, .any, .any, .any, .any, .any, .any, .any, .any, .any, .any, .any, .any, .any, .any, .any, .any, .any, .any, .any, .any, .any, .any, .any, .any, .any, .any, .any, .any, .any, .any, .any, .any, .any, .any, .any, .any, .any, .any, .any, .any, .any, .any, .any, .any, .any, .any, .any, .any, .any, .any, .any, .any, .any, .any, .any, .any, .any, .any, .any, .any, .any, .any, .any, .any, .any, .any, .any, .any, .any, .any], [.ex false [.c (.sc (.bool t12.1)), .c (.sc (.int .u64 x258)), .c (.sc (.int .i64 x259)), .c (.sc (.bool (z3 t12)))] 93, .ex false [.c (.sc (.bool t13.1)), .c (.sc (.int .u64 x260)), .c (.sc (.int .i64 x261)), .c (.sc (.bool (z3 t13)))] 93], 0⟩)))))))))) (by kernel_rfl) ?_)
    refine ⟨trivial, trivial, trivial, ?_⟩
    refine ⟨fun b278 => ?_, fun b278 => ?_⟩
    · rw [if_pos (of_decide_eq_true b278)] at h
      refine ⟨b278, ?_⟩
      refine ⟨trivial, ?_⟩
      refine ⟨b278, ?_⟩
      refine ⟨trivial, ?_⟩
      refine ⟨b278, ?_⟩
      refine ⟨fun b279 => ?_, fun b279 => ?_⟩
      · rw [if_neg (of_decide_eq_false b279)] at h
        refine ⟨b278, ?_⟩
        refine ⟨b279, ?_⟩
        refine ⟨b278, ?_⟩
        refine ⟨fun b284 => ?_, fun b284 => ?_⟩
        · rw [if_pos b284] at h
          refine ⟨trivial, trivial, ?_⟩
          refine ⟨fun b285 => ?_, fun b285 => ?_⟩
          · rw [if_pos (of_decide_eq_true b285)] at h
            refine ⟨trivial, trivial, trivial, trivial, trivial, trivial, trivial, trivial, ?_⟩
            exact ⟨⟨trivial, trivial, trivial⟩, ih (IntKind.wrap .u64 ((2 : Int) * x258)) (IntKind.wrap .i64 (x259 - (1 : Int))) x260 x261 x262 r h⟩
          · rw [if_neg (of_decide_eq_false b285)] at h
            refine ⟨b284, ?_⟩
            refine ⟨b284, ?_⟩
            refine ⟨b284, ?_⟩
            refine ⟨b284, ?_⟩
            refine ⟨b284, ?_⟩
            refine ⟨trivial, ?_⟩
            refine ⟨(by decide), ?_⟩
            refine ⟨trivial, trivial, trivial, trivial, trivial, trivial, ?_⟩
            refine ⟨fun b286 => ?_, fun b286 => ?_⟩
            · rw [if_pos (beq_t b286)] at h
              obtain rfl := Option.some.inj h
              exact ⟨⟨trivial, trivial, trivial⟩, rfl, rfl⟩
            · rw [if_neg (beq_f b286)] at h
              refine ⟨trivial, ?_⟩
              exact ⟨⟨trivial, trivial, trivial⟩, ih x258 x259 (IntKind.wrap .u64 (Int.tdiv x260 (2 : Int))) (IntKind.wrap .i64 (x261 + (1 : Int))) true r h⟩
        · rw [if_neg (ff b284)] at h
          obtain rfl := Option.some.inj h
          exact ⟨⟨trivial, trivial, trivial⟩, rfl, rfl⟩
      · rw [if_pos (of_decide_eq_true b279)] at h
        refine ⟨b278, ?_⟩
        refine ⟨b279, ?_⟩
        refine ⟨b278, ?_⟩
        refine ⟨rfl, trivial, trivial, ?_⟩
        refine ⟨fun b280 => ?_, fun b280 => ?_⟩
        · rw [if_pos (of_decide_eq_true b280)] at h
          refine ⟨trivial, trivial, trivial, trivial, trivial, trivial, trivial, trivial, ?_⟩
          exact ⟨⟨trivial, trivial, trivial⟩, ih (IntKind.wrap .u64 ((2 : Int) * x258)) (IntKind.wrap .i64 (x259 - (1 : Int))) x260 x261 x262 r h⟩
        · rw [if_neg (of_decide_eq_false b280)] at h
          refine ⟨fun b281 => ?_, fun b281 => ?_⟩
          · rw [if_neg (ff b281)] at h
            refine ⟨b281, ?_⟩
            refine ⟨trivial, ?_⟩
            refine ⟨b281, ?_⟩
            refine ⟨(by decide), ?_⟩
            refine ⟨b281, ?_⟩
            refine ⟨trivial, ?_⟩
            refine ⟨b281, ?_⟩
            refine ⟨trivial, ?_⟩
            refine ⟨(by decide), ?_⟩
            refine ⟨trivial, trivial, trivial, trivial, trivial, trivial, ?_⟩
            refine ⟨fun b283 => ?_, fun b283 => ?_⟩
            · rw [if_pos (beq_t b283)] at h
              obtain rfl := Option.some.inj h
              exact ⟨⟨trivial, trivial, trivial⟩, rfl, rfl⟩
            · rw [if_neg (beq_f b283)] at h
              refine ⟨trivial, ?_⟩
              exact ⟨⟨trivial, trivial, trivial⟩, ih x258 x259 (IntKind.wrap .u64 (Int.tdiv x260 (2 : Int))) (IntKind.wrap .i64 (x261 + (1 : Int))) ((Int.tmod x260 (2 : Int)) == (1 : Int)) r h⟩
          · rw [if_pos b281] at h
            refine ⟨b281, ?_⟩
            refine ⟨b281, ?_⟩
            refine ⟨b281, ?_⟩
            refine ⟨b281, ?_⟩
            refine ⟨trivial, ?_⟩
            refine ⟨(by decide), ?_⟩
            refine ⟨trivial, trivial, trivial, trivial, trivial, trivial, ?_⟩
            refine ⟨fun b282 => ?_, fun b282 => ?_⟩
            · rw [if_pos (beq_t b282)] at h
              obtain rfl := Option.some.inj h
              exact ⟨⟨trivial, trivial, trivial⟩, rfl, rfl⟩
            · rw [if_neg (beq_f b282)] at h
              refine ⟨trivial, ?_⟩
              exact ⟨⟨trivial, trivial, trivial⟩, ih x258 x259 (IntKind.wrap .u64 (Int.tdiv x260 (2 : Int))) (IntKind.wrap .i64 (x261 + (1 : Int))) true r h⟩
    · rw [if_neg (of_decide_eq_false b278)] at h
      refine ⟨b278, ?_⟩
      refine ⟨b278, ?_⟩
      refine ⟨b278, ?_⟩
      refine ⟨b278, ?_⟩
      refine ⟨b278, ?_⟩
      refine ⟨rfl, ?_⟩
      obtain rfl := Option.some.inj h
      exact ⟨⟨trivial, trivial, trivial⟩, rfl, rfl⟩
def halterref02_Add.f (a0 : Int) (a1 : Int) : Option Int :=
  (halterref02_none.f a0 a1).bind fun t1 =>
  if t1 = true then
    some (9221120237041090560 : Int)
  else
    (halterref02_Class.f a0).bind fun t3 =>
    if t3 = (3 : Int) then
      (halterref02_Class.f a1).bind fun t5 =>
      if t5 = (3 : Int) then
        (halterref02_Neg.f a0).bind fun t7 =>
        (halterref02_Neg.f a1).bind fun t8 =>
        if ¬ (t7 = t8) then
          some (9221120237041090560 : Int)
        else
          some a0
      else
        some a0
    else
      (halterref02_Class.f a1).bind fun t10 =>
      if t10 = (3 : Int) then
        some a1
      else
        (halterref02_Open.f a0).bind fun t12 =>
        (halterref02_Open.f a1).bind fun t13 =>
        if t12.2.1 = (0 : Int) then
          if t13.2.1 = (0 : Int) then
            if t12.1 = true then
              (halterref02_signed.f t13.1 (0 : Int)).bind fun t17 =>
              some t17
            else
              (halterref02_signed.f false (0 : Int)).bind fun t18 =>
              some t18
          else
            some a1
        else
          if t13.2.1 = (0 : Int) then
            some a0
          else
            if t12.2.2.1 < t13.2.2.1 then
              (halterref02_Add.l0 t12 t13 FUEL (IntKind.wrap .u64 ((256 : Int) * t13.2.1)) (IntKind.wrap .i64 (t13.2.2.1 - (8 : Int))) (IntKind.wrap .u64 ((256 : Int) * t12.2.1)) (IntKind.wrap .i64 (t12.2.2.1 - (8 : Int))) false).bind fun t62 =>
              if t13.1 = t12.1 then
                (halterref02_Round.f t13.1 (IntKind.wrap .u64 (t62.1 + t62.2.2.1)) t62.2.1 t62.2.2.2.2).bind fun t83 =>
                some t83
              else
                if t62.1 < t62.2.2.1 then
                  (halterref02_Round.f t12.1 (IntKind.wrap .u64 (t62.2.2.1 - t62.1)) t62.2.1 false).bind fun t85 =>
                  some t85
                else
                  if t62.2.2.2.2 = true then
                    if (IntKind.wrap .u64 ((IntKind.wrap .u64 (t62.1 - t62.2.2.1)) - (1 : Int))) = (0 : Int) then
                      (halterref02_Round.f t13.1 (IntKind.wrap .u64 ((IntKind.wrap .u64 (t62.1 - t62.2.2.1)) - (1 : Int))) t62.2.1 t62.2.2.2.2).bind fun t88 =>
                      some t88
                    else
                      (halterref02_Round.f t13.1 (IntKind.wrap .u64 ((IntKind.wrap .u64 (t62.1 - t62.2.2.1)) - (1 : Int))) t62.2.1 t62.2.2.2.2).bind fun t89 =>
                      some t89
                  else
                    if (IntKind.wrap .u64 (t62.1 - t62.2.2.1)) = (0 : Int) then
                      some (0 : Int)
                    else
                      (halterref02_Round.f t13.1 (IntKind.wrap .u64 (t62.1 - t62.2.2.1)) t62.2.1 t62.2.2.2.2).bind fun t91 =>
                      some t91
            else
              if t12.2.2.1 = t13.2.2.1 then
                if t12.2.1 < t13.2.1 then
                  (halterref02_Add.l1 t12 t13 FUEL (IntKind.wrap .u64 ((256 : Int) * t13.2.1)) (IntKind.wrap .i64 (t13.2.2.1 - (8 : Int))) (IntKind.wrap .u64 ((256 : Int) * t12.2.1)) (IntKind.wrap .i64 (t12.2.2.1 - (8 : Int))) false).bind fun t135 =>
                  if t13.1 = t12.1 then
                    (halterref02_Round.f t13.1 (IntKind.wrap .u64 (t135.1 + t135.2.2.1)) t135.2.1 t135.2.2.2.2).bind fun t156 =>
                    some t156
                  else
                    if t135.1 < t135.2.2.1 then
                      (halterref02_Round.f t12.1 (IntKind.wrap .u64 (t135.2.2.1 - t135.1)) t135.2.1 false).bind fun t158 =>
                      some t158
                    else
                      if t135.2.2.2.2 = true then
                        if (IntKind.wrap .u64 ((IntKind.wrap .u64 (t135.1 - t135.2.2.1)) - (1 : Int))) = (0 : Int) then
                          (halterref02_Round.f t13.1 (IntKind.wrap .u64 ((IntKind.wrap .u64 (t135.1 - t135.2.2.1)) - (1 : Int))) t135.2.1 t135.2.2.2.2).bind fun t161 =>
                          some t161
                        else
                          (halterref02_Round.f t13.1 (IntKind.wrap .u64 ((IntKind.wrap .u64 (t135.1 - t135.2.2.1)) - (1 : Int))) t135.2.1 t135.2.2.2.2).bind fun t162 =>
                          some t162
                      else
                        if (IntKind.wrap .u64 (t135.1 - t135.2.2.1)) = (0 : Int) then
                          some (0 : Int)
                        else
                          (halterref02_Round.f t13.1 (IntKind.wrap .u64 (t135.1 - t135.2.2.1)) t135.2.1 t135.2.2.2.2).bind fun t164 =>
                          some t164
                else
                  (halterref02_Add.l2 t12 t13 FUEL (IntKind.wrap .u64 ((256 : Int) * t12.2.1)) (IntKind.wrap .i64 (t12.2.2.1 - (8 : Int))) (IntKind.wrap .u64 ((256 : Int) * t13.2.1)) (IntKind.wrap .i64 (t13.2.2.1 - (8 : Int))) false).bind fun t206 =>
                  if t12.1 = t13.1 then
                    (halterref02_Round.f t12.1 (IntKind.wrap .u64 (t206.1 + t206.2.2.1)) t206.2.1 t206.2.2.2.2).bind fun t227 =>
                    some t227
                  else
                    if t206.1 < t206.2.2.1 then
                      (halterref02_Round.f t13.1 (IntKind.wrap .u64 (t206.2.2.1 - t206.1)) t206.2.1 false).bind fun t229 =>
                      some t229
                    else
                      if t206.2.2.2.2 = true then
                        if (IntKind.wrap .u64 ((IntKind.wrap .u64 (t206.1 - t206.2.2.1)) - (1 : Int))) = (0 : Int) then
                          (halterref02_Round.f t12.1 (IntKind.wrap .u64 ((IntKind.wrap .u64 (t206.1 - t206.2.2.1)) - (1 : Int))) t206.2.1 t206.2.2.2.2).bind fun t232 =>
                          some t232
                        else
                          (halterref02_Round.f t12.1 (IntKind.wrap .u64 ((IntKind.wrap .u64 (t206.1 - t206.2.2.1)) - (1 : Int))) t206.2.1 t206.2.2.2.2).bind fun t233 =>
                          some t233
                      else
                        if (IntKind.wrap .u64 (t206.1 - t206.2.2.1)) = (0 : Int) then
                          some (0 : Int)
                        else
                          (halterref02_Round.f t12.1 (IntKind.wrap .u64 (t206.1 - t206.2.2.1)) t206.2.1 t206.2.2.2.2).bind fun t235 =>
                          some t235
              else
                (halterref02_Add.l3 t12 t13 FUEL (IntKind.wrap .u64 ((256 : Int) * t12.2.1)) (IntKind.wrap .i64 (t12.2.2.1 - (8 : Int))) (IntKind.wrap .u64 ((256 : Int) * t13.2.1)) (IntKind.wrap .i64 (t13.2.2.1 - (8 : Int))) false).bind fun t277 =>
                if t12.1 = t13.1 then
                  (halterref02_Round.f t12.1 (IntKind.wrap .u64 (t277.1 + t277.2.2.1)) t277.2.1 t277.2.2.2.2).bind fun t298 =>
                  some t298
                else
                  if t277.1 < t277.2.2.1 then
                    (halterref02_Round.f t13.1 (IntKind.wrap .u64 (t277.2.2.1 - t277.1)) t277.2.1 false).bind fun t300 =>
                    some t300
                  else
                    if t277.2.2.2.2 = true then
                      if (IntKind.wrap .u64 ((IntKind.wrap .u64 (t277.1 - t277.2.2.1)) - (1 : Int))) = (0 : Int) then
                        (halterref02_Round.f t12.1 (IntKind.wrap .u64 ((IntKind.wrap .u64 (t277.1 - t277.2.2.1)) - (1 : Int))) t277.2.1 t277.2.2.2.2).bind fun t303 =>
                        some t303
                      else
                        (halterref02_Round.f t12.1 (IntKind.wrap .u64 ((IntKind.wrap .u64 (t277.1 - t277.2.2.1)) - (1 : Int))) t277.2.1 t277.2.2.2.2).bind fun t304 =>
                        some t304
                    else
                      if (IntKind.wrap .u64 (t277.1 - t277.2.2.1)) = (0 : Int) then
                        some (0 : Int)
                      else
                        (halterref02_Round.f t12.1 (IntKind.wrap .u64 (t277.1 - t277.2.2.1)) t277.2.1 t277.2.2.2.2).bind fun t306 =>
                        some t306
def halterref02_Add.R (r : Int) : Tm := .v (.one (.sc (.int .u64 r)))
end Go.Proofs.YtfoejbiifolnnaaDoorGAluFloats
