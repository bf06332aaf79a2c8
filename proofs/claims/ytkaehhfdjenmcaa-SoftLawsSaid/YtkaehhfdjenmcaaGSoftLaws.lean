/- Printed by gen.py: what functions of the program compute, in plain Lean, and that they do. -/
import Derived.Test.YtkaehhfdjenmcaaE15
import Derived.Test.YtkaehhfdjenmcaaProg
import Derived.Test.YtkaehhfdjenmcaaF
set_option linter.unusedVariables false
set_option maxRecDepth 100000
set_option maxHeartbeats 4000000
namespace Go.Proofs.YtkaehhfdjenmcaaGSoftLaws
open Go Go.Proofs.YtkaehhfdjenmcaaE
def tiL : List (Nat × TI) := [
  (3, ⟨1, 8, false, .int .i64, [.c (.sc (.int .i64 (0 : Int)))], some (.int .i64)⟩),
  (4, ⟨1, 1, false, .bool, [.c (.sc (.bool false))], some .bool⟩),
  (22, ⟨1, 8, false, .int .u64, [.c (.sc (.int .u64 (0 : Int)))], some (.int .u64)⟩),
  (28, ⟨1, 4, false, .int .u32, [.c (.sc (.int .u32 (0 : Int)))], some (.int .u32)⟩)]
def tabs : List (Nat × IntKind × List Int) := []
noncomputable def cfg : Cfg := ⟨Try.prog, 0, [] ++ tabs.flatMap tabG, tiL, [], tabs⟩
theorem cfg_ok : COk cfg := by
  refine ⟨fun p hp => ?_, by kernel_rfl, fun p hp => ?_, fun t ht => ?_, fun x hx y hy => List.mem_append_right _ (List.mem_flatMap.2 ⟨x, hx, hy⟩)⟩
  · simp only [cfg, tiL, List.mem_cons, List.not_mem_nil, or_false] at hp
    rcases hp with rfl | rfl | rfl | rfl <;> exact ⟨by kernel_rfl, by kernel_rfl, by kernel_rfl, by kernel_rfl, by kernel_rfl, by kernel_rfl⟩
  · simp only [cfg, tiL, List.mem_cons, List.not_mem_nil, or_false] at hp
    rcases hp with rfl | rfl | rfl | rfl <;> intro fs hfs bl hbl
    · cases hfs
    · cases hfs
    · cases hfs
    · cases hfs
  · cases ht
def fin : Scr → List Adj
  | .adj l _ => l
  | _ => []
/-! halter/soft.Add, by hand -/
def soft_Add.f (a0 : Int) (a1 : Int) : Option Int := YtkaehhfdjenmcaaF.soft_Add.f a0 a1
def soft_Add.R (r : Int) : Tm := .v (.one (.sc (.int .u64 r)))
theorem soft_Add.fun_ {a0 a1 r : Int} (h : soft_Add.f a0 a1 = some r) : Fun cfg 16 [.one (.sc (.int .u64 a0)), .one (.sc (.int .u64 a1))] [] (soft_Add.R r) [] := by
  refine Fun.of_below (f := 16) (fn := Try.f16) Try.func16 rfl (by kernel_rfl) (r := .int .u64 r) (fun X => ⟨⟨rfl, rfl⟩, rfl⟩) fun X vs hE hvs hG => ?_
  obtain ⟨v0, us0, rfl, hv0, v1, us1, rfl, hv1, rfl⟩ := hvs
  have hv0 : v0 = .int .u64 a0 := hv0.1.1
  have hv1 : v1 = .int .u64 a1 := hv1.1.1
  rw [hv0, hv1]
  exact YtkaehhfdjenmcaaF.soft_Add.calls a0 a1 r X.w h
/-! halter/soft.Sub, by hand -/
def soft_Sub.f (a0 : Int) (a1 : Int) : Option Int := YtkaehhfdjenmcaaF.soft_Sub.f a0 a1
def soft_Sub.R (r : Int) : Tm := .v (.one (.sc (.int .u64 r)))
theorem soft_Sub.fun_ {a0 a1 r : Int} (h : soft_Sub.f a0 a1 = some r) : Fun cfg 18 [.one (.sc (.int .u64 a0)), .one (.sc (.int .u64 a1))] [] (soft_Sub.R r) [] := by
  refine Fun.of_below (f := 18) (fn := Try.f18) Try.func18 rfl (by kernel_rfl) (r := .int .u64 r) (fun X => ⟨⟨rfl, rfl⟩, rfl⟩) fun X vs hE hvs hG => ?_
  obtain ⟨v0, us0, rfl, hv0, v1, us1, rfl, hv1, rfl⟩ := hvs
  have hv0 : v0 = .int .u64 a0 := hv0.1.1
  have hv1 : v1 = .int .u64 a1 := hv1.1.1
  rw [hv0, hv1]
  exact YtkaehhfdjenmcaaF.soft_Sub.calls a0 a1 r X.w h
/-! halter/soft.Mul, by hand -/
def soft_Mul.f (a0 : Int) (a1 : Int) : Option Int := YtkaehhfdjenmcaaF.soft_Mul.f a0 a1
def soft_Mul.R (r : Int) : Tm := .v (.one (.sc (.int .u64 r)))
theorem soft_Mul.fun_ {a0 a1 r : Int} (h : soft_Mul.f a0 a1 = some r) : Fun cfg 9 [.one (.sc (.int .u64 a0)), .one (.sc (.int .u64 a1))] [] (soft_Mul.R r) [] := by
  refine Fun.of_below (f := 9) (fn := Try.f9) Try.func9 rfl (by kernel_rfl) (r := .int .u64 r) (fun X => ⟨⟨rfl, rfl⟩, rfl⟩) fun X vs hE hvs hG => ?_
  obtain ⟨v0, us0, rfl, hv0, v1, us1, rfl, hv1, rfl⟩ := hvs
  have hv0 : v0 = .int .u64 a0 := hv0.1.1
  have hv1 : v1 = .int .u64 a1 := hv1.1.1
  rw [hv0, hv1]
  exact YtkaehhfdjenmcaaF.soft_Mul.calls a0 a1 r X.w h
/-! halter/soft.Div, by hand -/
def soft_Div.f (a0 : Int) (a1 : Int) : Option Int := YtkaehhfdjenmcaaF.soft_Div.f a0 a1
def soft_Div.R (r : Int) : Tm := .v (.one (.sc (.int .u64 r)))
theorem soft_Div.fun_ {a0 a1 r : Int} (h : soft_Div.f a0 a1 = some r) : Fun cfg 11 [.one (.sc (.int .u64 a0)), .one (.sc (.int .u64 a1))] [] (soft_Div.R r) [] := by
  refine Fun.of_below (f := 11) (fn := Try.f11) Try.func11 rfl (by kernel_rfl) (r := .int .u64 r) (fun X => ⟨⟨rfl, rfl⟩, rfl⟩) fun X vs hE hvs hG => ?_
  obtain ⟨v0, us0, rfl, hv0, v1, us1, rfl, hv1, rfl⟩ := hvs
  have hv0 : v0 = .int .u64 a0 := hv0.1.1
  have hv1 : v1 = .int .u64 a1 := hv1.1.1
  rw [hv0, hv1]
  exact YtkaehhfdjenmcaaF.soft_Div.calls a0 a1 r X.w h
/-! halter/soft.Cmp, by hand -/
def soft_Cmp.f (a0 : Int) (a1 : Int) : Option Int := YtkaehhfdjenmcaaF.soft_Cmp.f a0 a1
def soft_Cmp.R (r : Int) : Tm := .v (.one (.sc (.int .i64 r)))
theorem soft_Cmp.fun_ {a0 a1 r : Int} (h : soft_Cmp.f a0 a1 = some r) : Fun cfg 24 [.one (.sc (.int .u64 a0)), .one (.sc (.int .u64 a1))] [] (soft_Cmp.R r) [] := by
  refine Fun.of_below (f := 24) (fn := Try.f24) Try.func24 rfl (by kernel_rfl) (r := .int .i64 r) (fun X => ⟨⟨rfl, rfl⟩, rfl⟩) fun X vs hE hvs hG => ?_
  obtain ⟨v0, us0, rfl, hv0, v1, us1, rfl, hv1, rfl⟩ := hvs
  have hv0 : v0 = .int .u64 a0 := hv0.1.1
  have hv1 : v1 = .int .u64 a1 := hv1.1.1
  rw [hv0, hv1]
  exact YtkaehhfdjenmcaaF.soft_Cmp.calls a0 a1 r X.w h
/-! halter/soft.Sqrt, by hand -/
def soft_Sqrt.f (a0 : Int) : Option Int := YtkaehhfdjenmcaaF.soft_Sqrt.f a0
def soft_Sqrt.R (r : Int) : Tm := .v (.one (.sc (.int .u64 r)))
theorem soft_Sqrt.fun_ {a0 r : Int} (h : soft_Sqrt.f a0 = some r) : Fun cfg 13 [.one (.sc (.int .u64 a0))] [] (soft_Sqrt.R r) [] := by
  refine Fun.of_below (f := 13) (fn := Try.f13) Try.func13 rfl (by kernel_rfl) (r := .int .u64 r) (fun X => ⟨⟨rfl, rfl⟩, rfl⟩) fun X vs hE hvs hG => ?_
  obtain ⟨v0, us0, rfl, hv0, rfl⟩ := hvs
  have hv0 : v0 = .int .u64 a0 := hv0.1.1
  rw [hv0]
  exact YtkaehhfdjenmcaaF.soft_Sqrt.calls a0 r X.w h
/-! halter/soft.Min, by hand -/
def soft_Min.f (a0 : Int) (a1 : Int) : Option Int := YtkaehhfdjenmcaaF.soft_Min.f a0 a1
def soft_Min.R (r : Int) : Tm := .v (.one (.sc (.int .u64 r)))
theorem soft_Min.fun_ {a0 a1 r : Int} (h : soft_Min.f a0 a1 = some r) : Fun cfg 28 [.one (.sc (.int .u64 a0)), .one (.sc (.int .u64 a1))] [] (soft_Min.R r) [] := by
  refine Fun.of_below (f := 28) (fn := Try.f28) Try.func28 rfl (by kernel_rfl) (r := .int .u64 r) (fun X => ⟨⟨rfl, rfl⟩, rfl⟩) fun X vs hE hvs hG => ?_
  obtain ⟨v0, us0, rfl, hv0, v1, us1, rfl, hv1, rfl⟩ := hvs
  have hv0 : v0 = .int .u64 a0 := hv0.1.1
  have hv1 : v1 = .int .u64 a1 := hv1.1.1
  rw [hv0, hv1]
  exact YtkaehhfdjenmcaaF.soft_Min.calls a0 a1 r X.w h
/-! halter/soft.Max, by hand -/
def soft_Max.f (a0 : Int) (a1 : Int) : Option Int := YtkaehhfdjenmcaaF.soft_Max.f a0 a1
def soft_Max.R (r : Int) : Tm := .v (.one (.sc (.int .u64 r)))
theorem soft_Max.fun_ {a0 a1 r : Int} (h : soft_Max.f a0 a1 = some r) : Fun cfg 30 [.one (.sc (.int .u64 a0)), .one (.sc (.int .u64 a1))] [] (soft_Max.R r) [] := by
  refine Fun.of_below (f := 30) (fn := Try.f30) Try.func30 rfl (by kernel_rfl) (r := .int .u64 r) (fun X => ⟨⟨rfl, rfl⟩, rfl⟩) fun X vs hE hvs hG => ?_
  obtain ⟨v0, us0, rfl, hv0, v1, us1, rfl, hv1, rfl⟩ := hvs
  have hv0 : v0 = .int .u64 a0 := hv0.1.1
  have hv1 : v1 = .int .u64 a1 := hv1.1.1
  rw [hv0, hv1]
  exact YtkaehhfdjenmcaaF.soft_Max.calls a0 a1 r X.w h
/-! halter/soft.FromInt, by hand -/
def soft_FromInt.f (a0 : Int) : Option Int := YtkaehhfdjenmcaaF.soft_FromInt.f a0
def soft_FromInt.R (r : Int) : Tm := .v (.one (.sc (.int .u64 r)))
theorem soft_FromInt.fun_ {a0 r : Int} (h : soft_FromInt.f a0 = some r) : Fun cfg 23 [.one (.sc (.int .u32 a0))] [] (soft_FromInt.R r) [] := by
  refine Fun.of_below (f := 23) (fn := Try.f23) Try.func23 rfl (by kernel_rfl) (r := .int .u64 r) (fun X => ⟨⟨rfl, rfl⟩, rfl⟩) fun X vs hE hvs hG => ?_
  obtain ⟨v0, us0, rfl, hv0, rfl⟩ := hvs
  have hv0 : v0 = .int .u32 a0 := hv0.1.1
  rw [hv0]
  exact YtkaehhfdjenmcaaF.soft_FromInt.calls a0 r X.w h
/-! halter/soft.ToInt, by hand -/
def soft_ToInt.f (a0 : Int) : Option Int := YtkaehhfdjenmcaaF.soft_ToInt.f a0
def soft_ToInt.R (r : Int) : Tm := .v (.one (.sc (.int .u32 r)))
theorem soft_ToInt.fun_ {a0 r : Int} (h : soft_ToInt.f a0 = some r) : Fun cfg 25 [.one (.sc (.int .u64 a0))] [] (soft_ToInt.R r) [] := by
  refine Fun.of_below (f := 25) (fn := Try.f25) Try.func25 rfl (by kernel_rfl) (r := .int .u32 r) (fun X => ⟨⟨rfl, rfl⟩, rfl⟩) fun X vs hE hvs hG => ?_
  obtain ⟨v0, us0, rfl, hv0, rfl⟩ := hvs
  have hv0 : v0 = .int .u64 a0 := hv0.1.1
  rw [hv0]
  exact YtkaehhfdjenmcaaF.soft_ToInt.calls a0 r X.w h
/-! halter/soft.key -/
def soft_key.f (a0 : Int) : Option Int :=
  if ¬ (bits .and .u64 a0 (9223372036854775808 : Int)) = (0 : Int) then
    some (bits .xor .u64 (IntKind.max .u64) a0)
  else
    some (bits .or .u64 a0 (9223372036854775808 : Int))
def soft_key.R (r : Int) : Tm := .v (.one (.sc (.int .u64 r)))
theorem soft_key.fun_ {a0 : Int} {r : Int} (h : soft_key.f a0 = some r) : Fun cfg 48 [.one (.sc (.int .u64 a0))] [] (soft_key.R r) [] := by
  unfold soft_key.f at h
  refine fun_of_run cfg_ok (f := 48) (fn := Try.f48) Try.func48 rfl (by kernel_rfl) (rs := [.tmp 2]) rfl (nt := 10) rfl (l := fin) (k := (.br (.adj [] (.adj [] (.adj [] .nil))) (.adj [] (.adj [] (.adj [] (.adj [] .nil)))))) (to_goal (q := (True) ∧ (True) ∧ ((((bits .and .u64 a0 (9223372036854775808 : Int)) != (0 : Int)) = true → (True ∧ (True ∧ ((True) ∧ (True) ∧ (.v (.one (.sc (.int .u64 (bits .xor .u64 (IntKind.max .u64) a0)))) : Tm) = soft_key.R r ∧ ([] : List Box) = [])))) ∧ (((bits .and .u64 a0 (9223372036854775808 : Int)) != (0 : Int)) = false → (True ∧ (True ∧ (True) ∧ (True ∧ ((True) ∧ (True) ∧ (.v (.one (.sc (.int .u64 (bits .or .u64 a0 (9223372036854775808 : Int))))) : Tm) = soft_key.R r ∧ ([] : List Box) = []))))))) (by kernel_rfl) ?_)
  refine ⟨trivial, ?_⟩
  refine ⟨trivial, ?_⟩
  refine ⟨fun b1 => ?_, fun b1 => ?_⟩
  · rw [if_pos (bne_t b1)] at h
    refine ⟨trivial, ?_⟩
    refine ⟨trivial, ?_⟩
    obtain rfl := Option.some.inj h
    exact ⟨trivial, trivial, rfl, rfl⟩
  · rw [if_neg (not_not_intro (bne_f b1))] at h
    refine ⟨trivial, ?_⟩
    refine ⟨trivial, ?_⟩
    refine ⟨trivial, ?_⟩
    refine ⟨trivial, ?_⟩
    obtain rfl := Option.some.inj h
    exact ⟨trivial, trivial, rfl, rfl⟩
/-! cmp.isNaN[uint64] -/
def cmp_isNaN_uint64.f (a0 : Int) : Option Bool :=
  some (a0 != a0)
def cmp_isNaN_uint64.R (r : Bool) : Tm := .v (.one (.sc (.bool r)))
theorem cmp_isNaN_uint64.fun_ {a0 : Int} {r : Bool} (h : cmp_isNaN_uint64.f a0 = some r) : Fun cfg 53 [.one (.sc (.int .u64 a0))] [] (cmp_isNaN_uint64.R r) [] := by
  unfold cmp_isNaN_uint64.f at h
  refine fun_of_run cfg_ok (f := 53) (fn := Try.f53) Try.func53 rfl (by kernel_rfl) (rs := [.tmp 2]) rfl (nt := 6) rfl (l := fin) (k := (.adj [] (.adj [] (.adj [] (.adj [] .nil))))) (to_goal (q := (True ∧ (True ∧ (True) ∧ (True ∧ ((True) ∧ (True) ∧ (.v (.one (.sc (.bool (a0 != a0)))) : Tm) = cmp_isNaN_uint64.R r ∧ ([] : List Box) = []))))) (by kernel_rfl) ?_)
  refine ⟨trivial, ?_⟩
  refine ⟨trivial, ?_⟩
  refine ⟨trivial, ?_⟩
  refine ⟨trivial, ?_⟩
  obtain rfl := Option.some.inj h
  exact ⟨trivial, trivial, rfl, rfl⟩
/-! cmp.Compare[uint64] -/
def cmp_Compare_uint64.f (a0 : Int) (a1 : Int) : Option Int :=
  (cmp_isNaN_uint64.f a0).bind fun t1 =>
  (cmp_isNaN_uint64.f a1).bind fun t2 =>
  if t1 = true then
    if t2 = true then
      some (0 : Int)
    else
      some (-1 : Int)
  else
    if t2 = true then
      some (1 : Int)
    else
      if a0 < a1 then
        some (-1 : Int)
      else
        if a0 > a1 then
          some (1 : Int)
        else
          some (0 : Int)
def cmp_Compare_uint64.R (r : Int) : Tm := .v (.one (.sc (.int .i64 r)))
theorem cmp_Compare_uint64.fun_ {a0 : Int} {a1 : Int} {r : Int} (h : cmp_Compare_uint64.f a0 a1 = some r) : Fun cfg 47 [.one (.sc (.int .u64 a0)), .one (.sc (.int .u64 a1))] [] (cmp_Compare_uint64.R r) [] := by
  unfold cmp_Compare_uint64.f at h
  refine fun_of_run cfg_ok (f := 47) (fn := Try.f47) Try.func47 rfl (by kernel_rfl) (rs := [.tmp 4]) rfl (nt := 20) rfl (l := fin) (k := (.call true [] (Bool) (fun t1 => cmp_isNaN_uint64.R t1) (fun t1 => (.call true [] (Bool) (fun t2 => cmp_isNaN_uint64.R t2) (fun t2 => (.br (.br (.adj [] (.adj [] (.adj [] .nil))) (.adj [] (.adj [] (.adj [] (.adj [] .nil))))) (.br (.adj [] (.adj [] (.adj [] .nil))) (.br (.adj [] (.adj [] (.adj [] .nil))) (.br (.adj [] (.adj [] (.adj [] .nil))) (.adj [] (.adj [] (.adj [] (.adj [] .nil))))))))))))) (to_goal (q := (∃ t1 : Bool, (Fun cfg 53 [.one (.sc (.int .u64 a0))] [] (cmp_isNaN_uint64.R t1) [] ∧ True) ∧ (∃ t2 : Bool, (Fun cfg 53 [.one (.sc (.int .u64 a1))] [] (cmp_isNaN_uint64.R t2) [] ∧ True) ∧ ((t1 = true → ((t2 = true → (True ∧ (True ∧ ((True) ∧ (True) ∧ (.v (.one (.sc (.int .i64 (0 : Int)))) : Tm) = cmp_Compare_uint64.R r ∧ ([] : List Box) = [])))) ∧ (t2 = false → (True ∧ (True ∧ (True ∧ ((True) ∧ (True) ∧ (.v (.one (.sc (.int .i64 (-1 : Int)))) : Tm) = cmp_Compare_uint64.R r ∧ ([] : List Box) = []))))))) ∧ (t1 = false → ((t2 = true → (True ∧ (True ∧ ((True) ∧ (True) ∧ (.v (.one (.sc (.int .i64 (1 : Int)))) : Tm) = cmp_Compare_uint64.R r ∧ ([] : List Box) = [])))) ∧ (t2 = false → (True) ∧ (((decide (a0 < a1)) = true → (True ∧ (True ∧ ((True) ∧ (True) ∧ (.v (.one (.sc (.int .i64 (-1 : Int)))) : Tm) = cmp_Compare_uint64.R r ∧ ([] : List Box) = [])))) ∧ ((decide (a0 < a1)) = false → (True) ∧ (((decide (a0 > a1)) = true → (True ∧ (True ∧ ((True) ∧ (True) ∧ (.v (.one (.sc (.int .i64 (1 : Int)))) : Tm) = cmp_Compare_uint64.R r ∧ ([] : List Box) = [])))) ∧ ((decide (a0 > a1)) = false → (True ∧ (True ∧ (True ∧ ((True) ∧ (True) ∧ (.v (.one (.sc (.int .i64 (0 : Int)))) : Tm) = cmp_Compare_uint64.R r ∧ ([] : List Box) = []))))))))))))))) (by kernel_rfl) ?_)
  obtain ⟨t1, ht1, h⟩ := of_bind h
  refine ⟨t1, ⟨cmp_isNaN_uint64.fun_ ht1, trivial⟩, ?_⟩
  obtain ⟨t2, ht2, h⟩ := of_bind h
  refine ⟨t2, ⟨cmp_isNaN_uint64.fun_ ht2, trivial⟩, ?_⟩
  refine ⟨fun b3 => ?_, fun b3 => ?_⟩
  · rw [if_pos b3] at h
    refine ⟨fun b4 => ?_, fun b4 => ?_⟩
    · rw [if_pos b4] at h
      refine ⟨trivial, ?_⟩
      refine ⟨trivial, ?_⟩
      obtain rfl := Option.some.inj h
      exact ⟨trivial, trivial, rfl, rfl⟩
    · rw [if_neg (ff b4)] at h
      refine ⟨trivial, ?_⟩
      refine ⟨trivial, ?_⟩
      refine ⟨trivial, ?_⟩
      obtain rfl := Option.some.inj h
      exact ⟨trivial, trivial, rfl, rfl⟩
  · rw [if_neg (ff b3)] at h
    refine ⟨fun b5 => ?_, fun b5 => ?_⟩
    · rw [if_pos b5] at h
      refine ⟨trivial, ?_⟩
      refine ⟨trivial, ?_⟩
      obtain rfl := Option.some.inj h
      exact ⟨trivial, trivial, rfl, rfl⟩
    · rw [if_neg (ff b5)] at h
      refine ⟨trivial, ?_⟩
      refine ⟨fun b6 => ?_, fun b6 => ?_⟩
      · rw [if_pos (of_decide_eq_true b6)] at h
        refine ⟨trivial, ?_⟩
        refine ⟨trivial, ?_⟩
        obtain rfl := Option.some.inj h
        exact ⟨trivial, trivial, rfl, rfl⟩
      · rw [if_neg (of_decide_eq_false b6)] at h
        refine ⟨trivial, ?_⟩
        refine ⟨fun b7 => ?_, fun b7 => ?_⟩
        · rw [if_pos (of_decide_eq_true b7)] at h
          refine ⟨trivial, ?_⟩
          refine ⟨trivial, ?_⟩
          obtain rfl := Option.some.inj h
          exact ⟨trivial, trivial, rfl, rfl⟩
        · rw [if_neg (of_decide_eq_false b7)] at h
          refine ⟨trivial, ?_⟩
          refine ⟨trivial, ?_⟩
          refine ⟨trivial, ?_⟩
          obtain rfl := Option.some.inj h
          exact ⟨trivial, trivial, rfl, rfl⟩
/-! halter/soft.Order -/
def soft_Order.f (a0 : Int) (a1 : Int) : Option Int :=
  (soft_key.f a0).bind fun t1 =>
  (soft_key.f a1).bind fun t2 =>
  (cmp_Compare_uint64.f t1 t2).bind fun t3 =>
  some t3
def soft_Order.R (r : Int) : Tm := .v (.one (.sc (.int .i64 r)))
theorem soft_Order.fun_ {a0 : Int} {a1 : Int} {r : Int} (h : soft_Order.f a0 a1 = some r) : Fun cfg 32 [.one (.sc (.int .u64 a0)), .one (.sc (.int .u64 a1))] [] (soft_Order.R r) [] := by
  unfold soft_Order.f at h
  refine fun_of_run cfg_ok (f := 32) (fn := Try.f32) Try.func32 rfl (by kernel_rfl) (rs := [.tmp 4]) rfl (nt := 10) rfl (l := fin) (k := (.call true [] (Int) (fun t1 => soft_key.R t1) (fun t1 => (.call true [] (Int) (fun t2 => soft_key.R t2) (fun t2 => (.call true [] (Int) (fun t3 => cmp_Compare_uint64.R t3) (fun t3 => (.adj [] (.adj [] .nil))))))))) (to_goal (q := (∃ t1 : Int, (Fun cfg 48 [.one (.sc (.int .u64 a0))] [] (soft_key.R t1) [] ∧ True) ∧ (∃ t2 : Int, (Fun cfg 48 [.one (.sc (.int .u64 a1))] [] (soft_key.R t2) [] ∧ True) ∧ (∃ t3 : Int, (Fun cfg 47 [.one (.sc (.int .u64 t1)), .one (.sc (.int .u64 t2))] [] (cmp_Compare_uint64.R t3) [] ∧ True) ∧ (True ∧ ((True) ∧ (True) ∧ (.v (.one (.sc (.int .i64 t3))) : Tm) = soft_Order.R r ∧ ([] : List Box) = [])))))) (by kernel_rfl) ?_)
  obtain ⟨t1, ht1, h⟩ := of_bind h
  refine ⟨t1, ⟨soft_key.fun_ ht1, trivial⟩, ?_⟩
  obtain ⟨t2, ht2, h⟩ := of_bind h
  refine ⟨t2, ⟨soft_key.fun_ ht2, trivial⟩, ?_⟩
  obtain ⟨t3, ht3, h⟩ := of_bind h
  refine ⟨t3, ⟨cmp_Compare_uint64.fun_ ht3, trivial⟩, ?_⟩
  refine ⟨trivial, ?_⟩
  obtain rfl := Option.some.inj h
  exact ⟨trivial, trivial, rfl, rfl⟩
/-! halter/soft.Class -/
def soft_Class.f (a0 : Int) : Option Int :=
  if (bits .and .u64 (shr .u64 a0 (52 : Int)) (2047 : Int)) = (0 : Int) then
    if (bits .and .u64 a0 (4503599627370495 : Int)) = (0 : Int) then
      some (0 : Int)
    else
      some (1 : Int)
  else
    if (bits .and .u64 (shr .u64 a0 (52 : Int)) (2047 : Int)) < (2047 : Int) then
      some (2 : Int)
    else
      if (bits .and .u64 a0 (4503599627370495 : Int)) = (0 : Int) then
        some (3 : Int)
      else
        some (4 : Int)
def soft_Class.R (r : Int) : Tm := .v (.one (.sc (.int .i64 r)))
theorem soft_Class.fun_ {a0 : Int} {r : Int} (h : soft_Class.f a0 = some r) : Fun cfg 20 [.one (.sc (.int .u64 a0))] [] (soft_Class.R r) [] := by
  unfold soft_Class.f at h
  refine fun_of_run cfg_ok (f := 20) (fn := Try.f20) Try.func20 rfl (by kernel_rfl) (rs := [.tmp 2]) rfl (nt := 26) rfl (l := fin) (k := (.br (.one true (.one true (.br (.adj [] (.adj [] (.adj [] .nil))) (.one true (.adj [] (.adj [] (.adj [] .nil))))))) (.one false (.one false (.one false (.one false (.br (.adj [] (.adj [] (.adj [] .nil))) (.br (.adj [] (.adj [] (.adj [] .nil))) (.adj [] (.adj [] (.adj [] (.adj [] .nil)))))))))))) (to_goal (q := (0 ≤ (52 : Int)) ∧ (True) ∧ (True) ∧ (True) ∧ ((((bits .and .u64 (shr .u64 a0 (52 : Int)) (2047 : Int)) == (0 : Int)) = true → (((bits .and .u64 (shr .u64 a0 (52 : Int)) (2047 : Int)) == (0 : Int)) = true ∧ (True) ∧ (((bits .and .u64 (shr .u64 a0 (52 : Int)) (2047 : Int)) == (0 : Int)) = true ∧ ((((bits .and .u64 a0 (4503599627370495 : Int)) == (0 : Int)) = true → (True ∧ (True ∧ ((True) ∧ (True) ∧ (.v (.one (.sc (.int .i64 (0 : Int)))) : Tm) = soft_Class.R r ∧ ([] : List Box) = [])))) ∧ (((bits .and .u64 a0 (4503599627370495 : Int)) == (0 : Int)) = false → (True) ∧ (((bits .and .u64 (shr .u64 a0 (52 : Int)) (2047 : Int)) == (0 : Int)) = true ∧ (True ∧ (True ∧ ((True) ∧ (True) ∧ (.v (.one (.sc (.int .i64 (1 : Int)))) : Tm) = soft_Class.R r ∧ ([] : List Box) = []))))))))) ∧ (((bits .and .u64 (shr .u64 a0 (52 : Int)) (2047 : Int)) == (0 : Int)) = false → (((bits .and .u64 (shr .u64 a0 (52 : Int)) (2047 : Int)) == (0 : Int)) = false ∧ (((bits .and .u64 (shr .u64 a0 (52 : Int)) (2047 : Int)) == (0 : Int)) = false ∧ (false = false ∧ (True) ∧ (((bits .and .u64 (shr .u64 a0 (52 : Int)) (2047 : Int)) == (0 : Int)) = false ∧ (True) ∧ (((decide ((bits .and .u64 (shr .u64 a0 (52 : Int)) (2047 : Int)) < (2047 : Int))) = true → (True ∧ (True ∧ ((True) ∧ (True) ∧ (.v (.one (.sc (.int .i64 (2 : Int)))) : Tm) = soft_Class.R r ∧ ([] : List Box) = [])))) ∧ ((decide ((bits .and .u64 (shr .u64 a0 (52 : Int)) (2047 : Int)) < (2047 : Int))) = false → (True) ∧ ((((bits .and .u64 a0 (4503599627370495 : Int)) == (0 : Int)) = true → (True ∧ (True ∧ ((True) ∧ (True) ∧ (.v (.one (.sc (.int .i64 (3 : Int)))) : Tm) = soft_Class.R r ∧ ([] : List Box) = [])))) ∧ (((bits .and .u64 a0 (4503599627370495 : Int)) == (0 : Int)) = false → (True ∧ (True ∧ (True ∧ ((True) ∧ (True) ∧ (.v (.one (.sc (.int .i64 (4 : Int)))) : Tm) = soft_Class.R r ∧ ([] : List Box) = []))))))))))))))) (by kernel_rfl) ?_)
  refine ⟨(by decide), ?_⟩
  refine ⟨trivial, ?_⟩
  refine ⟨trivial, ?_⟩
  refine ⟨trivial, ?_⟩
  refine ⟨fun b1 => ?_, fun b1 => ?_⟩
  · rw [if_pos (beq_t b1)] at h
    refine ⟨b1, ?_⟩
    refine ⟨trivial, ?_⟩
    refine ⟨b1, ?_⟩
    refine ⟨fun b2 => ?_, fun b2 => ?_⟩
    · rw [if_pos (beq_t b2)] at h
      refine ⟨trivial, ?_⟩
      refine ⟨trivial, ?_⟩
      obtain rfl := Option.some.inj h
      exact ⟨trivial, trivial, rfl, rfl⟩
    · rw [if_neg (beq_f b2)] at h
      refine ⟨trivial, ?_⟩
      refine ⟨b1, ?_⟩
      refine ⟨trivial, ?_⟩
      refine ⟨trivial, ?_⟩
      obtain rfl := Option.some.inj h
      exact ⟨trivial, trivial, rfl, rfl⟩
  · rw [if_neg (beq_f b1)] at h
    refine ⟨b1, ?_⟩
    refine ⟨b1, ?_⟩
    refine ⟨rfl, ?_⟩
    refine ⟨trivial, ?_⟩
    refine ⟨b1, ?_⟩
    refine ⟨trivial, ?_⟩
    refine ⟨fun b3 => ?_, fun b3 => ?_⟩
    · rw [if_pos (of_decide_eq_true b3)] at h
      refine ⟨trivial, ?_⟩
      refine ⟨trivial, ?_⟩
      obtain rfl := Option.some.inj h
      exact ⟨trivial, trivial, rfl, rfl⟩
    · rw [if_neg (of_decide_eq_false b3)] at h
      refine ⟨trivial, ?_⟩
      refine ⟨fun b4 => ?_, fun b4 => ?_⟩
      · rw [if_pos (beq_t b4)] at h
        refine ⟨trivial, ?_⟩
        refine ⟨trivial, ?_⟩
        obtain rfl := Option.some.inj h
        exact ⟨trivial, trivial, rfl, rfl⟩
      · rw [if_neg (beq_f b4)] at h
        refine ⟨trivial, ?_⟩
        refine ⟨trivial, ?_⟩
        refine ⟨trivial, ?_⟩
        obtain rfl := Option.some.inj h
        exact ⟨trivial, trivial, rfl, rfl⟩
/-! halter/halterlaw02.sure -/
def halterlaw02_sure.f : Option Bool :=
  (soft_Add.f (4607182418800017408 : Int) (4607182418800017408 : Int)).bind fun t1 =>
  if t1 = (4611686018427387904 : Int) then
    (soft_Div.f (4607182418800017408 : Int) (0 : Int)).bind fun t3 =>
    if t3 = (9218868437227405312 : Int) then
      (soft_Sqrt.f (9223372036854775808 : Int)).bind fun t5 =>
      if t5 = (9223372036854775808 : Int) then
        (soft_Cmp.f (4607182418800017408 : Int) (4611686018427387904 : Int)).bind fun t7 =>
        if t7 = (-1 : Int) then
          (soft_ToInt.f (4611686018427387904 : Int)).bind fun t9 =>
          if t9 = (2 : Int) then
            (soft_FromInt.f (4294967295 : Int)).bind fun t11 =>
            if t11 = (13830554455654793216 : Int) then
              (soft_Class.f (1 : Int)).bind fun t13 =>
              if t13 = (1 : Int) then
                (soft_Mul.f (4611686018427387904 : Int) (4611686018427387904 : Int)).bind fun t15 =>
                some (t15 == (4616189618054758400 : Int))
              else
                some false
            else
              some false
          else
            some false
        else
          some false
      else
        some false
    else
      some false
  else
    some false
def halterlaw02_sure.R (r : Bool) : Tm := .v (.one (.sc (.bool r)))
theorem halterlaw02_sure.fun_ {r : Bool} (h : halterlaw02_sure.f = some r) : Fun cfg 15 [] [] (halterlaw02_sure.R r) [] := by
  unfold halterlaw02_sure.f at h
  refine fun_of_run cfg_ok (f := 15) (fn := Try.f15) Try.func15 rfl (by kernel_rfl) (rs := [.tmp 0]) rfl (nt := 31) rfl (l := fin) (k := (.call true [] (Int) (fun t1 => soft_Add.R t1) (fun t1 => (.br (.call true [] (Int) (fun t3 => soft_Div.R t3) (fun t3 => (.one true (.one true (.br (.call true [] (Int) (fun t5 => soft_Sqrt.R t5) (fun t5 => (.one true (.one true (.br (.call true [] (Int) (fun t7 => soft_Cmp.R t7) (fun t7 => (.one true (.one true (.br (.call true [] (Int) (fun t9 => soft_ToInt.R t9) (fun t9 => (.one true (.one true (.br (.call true [] (Int) (fun t11 => soft_FromInt.R t11) (fun t11 => (.one true (.one true (.br (.call true [] (Int) (fun t13 => soft_Class.R t13) (fun t13 => (.one true (.one true (.br (.call true [] (Int) (fun t15 => soft_Mul.R t15) (fun t15 => (.one true (.one true (.adj [] (.adj [] .nil)))))) (.one false (.one false (.adj [] (.adj [] .nil))))))))) (.one false (.one false (.one false (.one false (.one false (.adj [] (.adj [] .nil)))))))))))) (.one false (.one false (.one false (.one false (.one false (.one false (.one false (.one false (.adj [] (.adj [] .nil))))))))))))))) (.one false (.one false (.one false (.one false (.one false (.one false (.one false (.one false (.one false (.one false (.one false (.adj [] (.adj [] .nil)))))))))))))))))) (.one false (.one false (.one false (.one false (.one false (.one false (.one false (.one false (.one false (.one false (.one false (.one false (.one false (.one false (.adj [] (.adj [] .nil))))))))))))))))))))) (.one false (.one false (.one false (.one false (.one false (.one false (.one false (.one false (.one false (.one false (.one false (.one false (.one false (.one false (.one false (.one false (.one false (.adj [] (.adj [] .nil)))))))))))))))))))))))) (.one false (.one false (.one false (.one false (.one false (.one false (.one false (.one false (.one false (.one false (.one false (.one false (.one false (.one false (.one false (.one false (.one false (.one false (.one false (.one false (.adj [] (.adj [] .nil)))))))))))))))))))))))))) (to_goal (q := (∃ t1 : Int, (Fun cfg 16 [.one (.sc (.int .u64 (4607182418800017408 : Int))), .one (.sc (.int .u64 (4607182418800017408 : Int)))] [] (soft_Add.R t1) [] ∧ True) ∧ (True) ∧ (((t1 == (4611686018427387904 : Int)) = true → (∃ t3 : Int, (Fun cfg 11 [.one (.sc (.int .u64 (4607182418800017408 : Int))), .one (.sc (.int .u64 (0 : Int)))] [] (soft_Div.R t3) [] ∧ True) ∧ ((t1 == (4611686018427387904 : Int)) = true ∧ (True) ∧ ((t1 == (4611686018427387904 : Int)) = true ∧ (((t3 == (9218868437227405312 : Int)) = true → (∃ t5 : Int, (Fun cfg 13 [.one (.sc (.int .u64 (9223372036854775808 : Int)))] [] (soft_Sqrt.R t5) [] ∧ True) ∧ ((t3 == (9218868437227405312 : Int)) = true ∧ (True) ∧ ((t3 == (9218868437227405312 : Int)) = true ∧ (((t5 == (9223372036854775808 : Int)) = true → (∃ t7 : Int, (Fun cfg 24 [.one (.sc (.int .u64 (4607182418800017408 : Int))), .one (.sc (.int .u64 (4611686018427387904 : Int)))] [] (soft_Cmp.R t7) [] ∧ True) ∧ ((t5 == (9223372036854775808 : Int)) = true ∧ (True) ∧ ((t5 == (9223372036854775808 : Int)) = true ∧ (((t7 == (-1 : Int)) = true → (∃ t9 : Int, (Fun cfg 25 [.one (.sc (.int .u64 (4611686018427387904 : Int)))] [] (soft_ToInt.R t9) [] ∧ True) ∧ ((t7 == (-1 : Int)) = true ∧ (True) ∧ ((t7 == (-1 : Int)) = true ∧ (((t9 == (2 : Int)) = true → (∃ t11 : Int, (Fun cfg 23 [.one (.sc (.int .u32 (4294967295 : Int)))] [] (soft_FromInt.R t11) [] ∧ True) ∧ ((t9 == (2 : Int)) = true ∧ (True) ∧ ((t9 == (2 : Int)) = true ∧ (((t11 == (13830554455654793216 : Int)) = true → (∃ t13 : Int, (Fun cfg 20 [.one (.sc (.int .u64 (1 : Int)))] [] (soft_Class.R t13) [] ∧ True) ∧ ((t11 == (13830554455654793216 : Int)) = true ∧ (True) ∧ ((t11 == (13830554455654793216 : Int)) = true ∧ (((t13 == (1 : Int)) = true → (∃ t15 : Int, (Fun cfg 9 [.one (.sc (.int .u64 (4611686018427387904 : Int))), .one (.sc (.int .u64 (4611686018427387904 : Int)))] [] (soft_Mul.R t15) [] ∧ True) ∧ ((t13 == (1 : Int)) = true ∧ (True) ∧ ((t13 == (1 : Int)) = true ∧ (True ∧ ((True) ∧ (True) ∧ (.v (.one (.sc (.bool (t15 == (4616189618054758400 : Int))))) : Tm) = halterlaw02_sure.R r ∧ ([] : List Box) = [])))))) ∧ ((t13 == (1 : Int)) = false → ((t13 == (1 : Int)) = false ∧ ((t13 == (1 : Int)) = false ∧ (True ∧ ((True) ∧ (True) ∧ (.v (.one (.sc (.bool false))) : Tm) = halterlaw02_sure.R r ∧ ([] : List Box) = [])))))))))) ∧ ((t11 == (13830554455654793216 : Int)) = false → ((t11 == (13830554455654793216 : Int)) = false ∧ ((t11 == (13830554455654793216 : Int)) = false ∧ (false = false ∧ (false = false ∧ (false = false ∧ (True ∧ ((True) ∧ (True) ∧ (.v (.one (.sc (.bool false))) : Tm) = halterlaw02_sure.R r ∧ ([] : List Box) = []))))))))))))) ∧ ((t9 == (2 : Int)) = false → ((t9 == (2 : Int)) = false ∧ ((t9 == (2 : Int)) = false ∧ (false = false ∧ (false = false ∧ (false = false ∧ (false = false ∧ (false = false ∧ (false = false ∧ (True ∧ ((True) ∧ (True) ∧ (.v (.one (.sc (.bool false))) : Tm) = halterlaw02_sure.R r ∧ ([] : List Box) = [])))))))))))))))) ∧ ((t7 == (-1 : Int)) = false → ((t7 == (-1 : Int)) = false ∧ ((t7 == (-1 : Int)) = false ∧ (false = false ∧ (false = false ∧ (false = false ∧ (false = false ∧ (false = false ∧ (false = false ∧ (false = false ∧ (false = false ∧ (false = false ∧ (True ∧ ((True) ∧ (True) ∧ (.v (.one (.sc (.bool false))) : Tm) = halterlaw02_sure.R r ∧ ([] : List Box) = []))))))))))))))))))) ∧ ((t5 == (9223372036854775808 : Int)) = false → ((t5 == (9223372036854775808 : Int)) = false ∧ ((t5 == (9223372036854775808 : Int)) = false ∧ (false = false ∧ (false = false ∧ (false = false ∧ (false = false ∧ (false = false ∧ (false = false ∧ (false = false ∧ (false = false ∧ (false = false ∧ (false = false ∧ (false = false ∧ (false = false ∧ (True ∧ ((True) ∧ (True) ∧ (.v (.one (.sc (.bool false))) : Tm) = halterlaw02_sure.R r ∧ ([] : List Box) = [])))))))))))))))))))))) ∧ ((t3 == (9218868437227405312 : Int)) = false → ((t3 == (9218868437227405312 : Int)) = false ∧ ((t3 == (9218868437227405312 : Int)) = false ∧ (false = false ∧ (false = false ∧ (false = false ∧ (false = false ∧ (false = false ∧ (false = false ∧ (false = false ∧ (false = false ∧ (false = false ∧ (false = false ∧ (false = false ∧ (false = false ∧ (false = false ∧ (false = false ∧ (false = false ∧ (True ∧ ((True) ∧ (True) ∧ (.v (.one (.sc (.bool false))) : Tm) = halterlaw02_sure.R r ∧ ([] : List Box) = []))))))))))))))))))))))))) ∧ ((t1 == (4611686018427387904 : Int)) = false → ((t1 == (4611686018427387904 : Int)) = false ∧ ((t1 == (4611686018427387904 : Int)) = false ∧ (false = false ∧ (false = false ∧ (false = false ∧ (false = false ∧ (false = false ∧ (false = false ∧ (false = false ∧ (false = false ∧ (false = false ∧ (false = false ∧ (false = false ∧ (false = false ∧ (false = false ∧ (false = false ∧ (false = false ∧ (false = false ∧ (false = false ∧ (false = false ∧ (True ∧ ((True) ∧ (True) ∧ (.v (.one (.sc (.bool false))) : Tm) = halterlaw02_sure.R r ∧ ([] : List Box) = [])))))))))))))))))))))))))) (by kernel_rfl) ?_)
  obtain ⟨t1, ht1, h⟩ := of_bind h
  refine ⟨t1, ⟨soft_Add.fun_ ht1, trivial⟩, ?_⟩
  refine ⟨trivial, ?_⟩
  refine ⟨fun b2 => ?_, fun b2 => ?_⟩
  · rw [if_pos (beq_t b2)] at h
    obtain ⟨t3, ht3, h⟩ := of_bind h
    refine ⟨t3, ⟨soft_Div.fun_ ht3, trivial⟩, ?_⟩
    refine ⟨b2, ?_⟩
    refine ⟨trivial, ?_⟩
    refine ⟨b2, ?_⟩
    refine ⟨fun b4 => ?_, fun b4 => ?_⟩
    · rw [if_pos (beq_t b4)] at h
      obtain ⟨t5, ht5, h⟩ := of_bind h
      refine ⟨t5, ⟨soft_Sqrt.fun_ ht5, trivial⟩, ?_⟩
      refine ⟨b4, ?_⟩
      refine ⟨trivial, ?_⟩
      refine ⟨b4, ?_⟩
      refine ⟨fun b6 => ?_, fun b6 => ?_⟩
      · rw [if_pos (beq_t b6)] at h
        obtain ⟨t7, ht7, h⟩ := of_bind h
        refine ⟨t7, ⟨soft_Cmp.fun_ ht7, trivial⟩, ?_⟩
        refine ⟨b6, ?_⟩
        refine ⟨trivial, ?_⟩
        refine ⟨b6, ?_⟩
        refine ⟨fun b8 => ?_, fun b8 => ?_⟩
        · rw [if_pos (beq_t b8)] at h
          obtain ⟨t9, ht9, h⟩ := of_bind h
          refine ⟨t9, ⟨soft_ToInt.fun_ ht9, trivial⟩, ?_⟩
          refine ⟨b8, ?_⟩
          refine ⟨trivial, ?_⟩
          refine ⟨b8, ?_⟩
          refine ⟨fun b10 => ?_, fun b10 => ?_⟩
          · rw [if_pos (beq_t b10)] at h
            obtain ⟨t11, ht11, h⟩ := of_bind h
            refine ⟨t11, ⟨soft_FromInt.fun_ ht11, trivial⟩, ?_⟩
            refine ⟨b10, ?_⟩
            refine ⟨trivial, ?_⟩
            refine ⟨b10, ?_⟩
            refine ⟨fun b12 => ?_, fun b12 => ?_⟩
            · rw [if_pos (beq_t b12)] at h
              obtain ⟨t13, ht13, h⟩ := of_bind h
              refine ⟨t13, ⟨soft_Class.fun_ ht13, trivial⟩, ?_⟩
              refine ⟨b12, ?_⟩
              refine ⟨trivial, ?_⟩
              refine ⟨b12, ?_⟩
              refine ⟨fun b14 => ?_, fun b14 => ?_⟩
              · rw [if_pos (beq_t b14)] at h
                obtain ⟨t15, ht15, h⟩ := of_bind h
                refine ⟨t15, ⟨soft_Mul.fun_ ht15, trivial⟩, ?_⟩
                refine ⟨b14, ?_⟩
                refine ⟨trivial, ?_⟩
                refine ⟨b14, ?_⟩
                refine ⟨trivial, ?_⟩
                obtain rfl := Option.some.inj h
                exact ⟨trivial, trivial, rfl, rfl⟩
              · rw [if_neg (beq_f b14)] at h
                refine ⟨b14, ?_⟩
                refine ⟨b14, ?_⟩
                refine ⟨trivial, ?_⟩
                obtain rfl := Option.some.inj h
                exact ⟨trivial, trivial, rfl, rfl⟩
            · rw [if_neg (beq_f b12)] at h
              refine ⟨b12, ?_⟩
              refine ⟨b12, ?_⟩
              refine ⟨rfl, ?_⟩
              refine ⟨rfl, ?_⟩
              refine ⟨rfl, ?_⟩
              refine ⟨trivial, ?_⟩
              obtain rfl := Option.some.inj h
              exact ⟨trivial, trivial, rfl, rfl⟩
          · rw [if_neg (beq_f b10)] at h
            refine ⟨b10, ?_⟩
            refine ⟨b10, ?_⟩
            refine ⟨rfl, ?_⟩
            refine ⟨rfl, ?_⟩
            refine ⟨rfl, ?_⟩
            refine ⟨rfl, ?_⟩
            refine ⟨rfl, ?_⟩
            refine ⟨rfl, ?_⟩
            refine ⟨trivial, ?_⟩
            obtain rfl := Option.some.inj h
            exact ⟨trivial, trivial, rfl, rfl⟩
        · rw [if_neg (beq_f b8)] at h
          refine ⟨b8, ?_⟩
          refine ⟨b8, ?_⟩
          refine ⟨rfl, ?_⟩
          refine ⟨rfl, ?_⟩
          refine ⟨rfl, ?_⟩
          refine ⟨rfl, ?_⟩
          refine ⟨rfl, ?_⟩
          refine ⟨rfl, ?_⟩
          refine ⟨rfl, ?_⟩
          refine ⟨rfl, ?_⟩
          refine ⟨rfl, ?_⟩
          refine ⟨trivial, ?_⟩
          obtain rfl := Option.some.inj h
          exact ⟨trivial, trivial, rfl, rfl⟩
      · rw [if_neg (beq_f b6)] at h
        refine ⟨b6, ?_⟩
        refine ⟨b6, ?_⟩
        refine ⟨rfl, ?_⟩
        refine ⟨rfl, ?_⟩
        refine ⟨rfl, ?_⟩
        refine ⟨rfl, ?_⟩
        refine ⟨rfl, ?_⟩
        refine ⟨rfl, ?_⟩
        refine ⟨rfl, ?_⟩
        refine ⟨rfl, ?_⟩
        refine ⟨rfl, ?_⟩
        refine ⟨rfl, ?_⟩
        refine ⟨rfl, ?_⟩
        refine ⟨rfl, ?_⟩
        refine ⟨trivial, ?_⟩
        obtain rfl := Option.some.inj h
        exact ⟨trivial, trivial, rfl, rfl⟩
    · rw [if_neg (beq_f b4)] at h
      refine ⟨b4, ?_⟩
      refine ⟨b4, ?_⟩
      refine ⟨rfl, ?_⟩
      refine ⟨rfl, ?_⟩
      refine ⟨rfl, ?_⟩
      refine ⟨rfl, ?_⟩
      refine ⟨rfl, ?_⟩
      refine ⟨rfl, ?_⟩
      refine ⟨rfl, ?_⟩
      refine ⟨rfl, ?_⟩
      refine ⟨rfl, ?_⟩
      refine ⟨rfl, ?_⟩
      refine ⟨rfl, ?_⟩
      refine ⟨rfl, ?_⟩
      refine ⟨rfl, ?_⟩
      refine ⟨rfl, ?_⟩
      refine ⟨rfl, ?_⟩
      refine ⟨trivial, ?_⟩
      obtain rfl := Option.some.inj h
      exact ⟨trivial, trivial, rfl, rfl⟩
  · rw [if_neg (beq_f b2)] at h
    refine ⟨b2, ?_⟩
    refine ⟨b2, ?_⟩
    refine ⟨rfl, ?_⟩
    refine ⟨rfl, ?_⟩
    refine ⟨rfl, ?_⟩
    refine ⟨rfl, ?_⟩
    refine ⟨rfl, ?_⟩
    refine ⟨rfl, ?_⟩
    refine ⟨rfl, ?_⟩
    refine ⟨rfl, ?_⟩
    refine ⟨rfl, ?_⟩
    refine ⟨rfl, ?_⟩
    refine ⟨rfl, ?_⟩
    refine ⟨rfl, ?_⟩
    refine ⟨rfl, ?_⟩
    refine ⟨rfl, ?_⟩
    refine ⟨rfl, ?_⟩
    refine ⟨rfl, ?_⟩
    refine ⟨rfl, ?_⟩
    refine ⟨rfl, ?_⟩
    refine ⟨trivial, ?_⟩
    obtain rfl := Option.some.inj h
    exact ⟨trivial, trivial, rfl, rfl⟩
/-! halter/halterlaw02.SoftLaws -/
def halterlaw02_SoftLaws.j0 (t13 : Int) (a0 : Int) (a1 : Int) : Option ((Unit) ⊕ (Unit)) :=
  if t13 = (4 : Int) then
    (soft_Add.f a0 a1).bind fun t43 =>
    if ¬ t43 = (9221120237041090560 : Int) then
      some (.inr ())
    else
      (soft_Mul.f a0 a1).bind fun t45 =>
      if ¬ t45 = (9221120237041090560 : Int) then
        some (.inr ())
      else
        (soft_Div.f a0 a1).bind fun t47 =>
        if ¬ t47 = (9221120237041090560 : Int) then
          some (.inr ())
        else
          (soft_Sqrt.f a0).bind fun t49 =>
          if ¬ t49 = (9221120237041090560 : Int) then
            some (.inr ())
          else
            (soft_Cmp.f a0 a1).bind fun t51 =>
            if ¬ t51 = (2 : Int) then
              some (.inr ())
            else
              (soft_Min.f a1 a0).bind fun t53 =>
              if ¬ t53 = (9221120237041090560 : Int) then
                some (.inr ())
              else
                some (.inl ())
  else
    if t13 = (3 : Int) then
      (soft_Sub.f a0 a0).bind fun t56 =>
      if ¬ t56 = (9221120237041090560 : Int) then
        some (.inr ())
      else
        (soft_Div.f (4503599627370496 : Int) a0).bind fun t58 =>
        if ¬ (Int.tmod t58 (9223372036854775808 : Int)) = (0 : Int) then
          some (.inr ())
        else
          some (.inl ())
    else
      (soft_Sub.f a0 a0).bind fun t60 =>
      if ¬ t60 = (0 : Int) then
        some (.inr ())
      else
        (soft_Add.f a0 (0 : Int)).bind fun t62 =>
        (soft_Cmp.f t62 a0).bind fun t63 =>
        if ¬ t63 = (0 : Int) then
          some (.inr ())
        else
          (soft_Mul.f a0 (4607182418800017408 : Int)).bind fun t65 =>
          if ¬ t65 = a0 then
            some (.inr ())
          else
            (soft_Div.f a0 (4607182418800017408 : Int)).bind fun t67 =>
            if ¬ t67 = a0 then
              some (.inr ())
            else
              some (.inl ())
def halterlaw02_SoftLaws.j0_S (t13 : Int) (a0 : Int) (a1 : Int) : St := ⟨[.v (.one (.sc (.int .u64 a0))), .v (.one (.sc (.int .u64 a1))), .any, .any, .any, .any, .any, .any, .any, .any, .any, .any, .any, .any, .any, .any, .any, .any, .any, .any, .any, .any, .any, .any, .any, .any, .any, .any, .any, .any, .any, .any, .any, .any, .any, .any, .any, .any, .any, .any, .any, .any, .any, .v (.one (.sc (.int .i64 t13))), .any, .any, .any, .any, .any, .any, .any, .any, .any, .any, .any, .any, .any, .any, .any, .any, .any, .any, .any, .any, .any, .any, .any, .any, .any, .any, .any, .any, .any, .any, .any, .any, .any, .any, .any, .any, .any, .any, .any, .any, .any, .any, .any, .any, .any, .any, .any, .any, .any, .any, .any, .any, .any, .any, .any, .any, .any, .any, .any, .any, .any, .any, .any, .any, .any, .any, .any, .any, .any, .any, .any, .any, .any, .any, .any, .any, .any, .any, .any, .any, .any, .any, .any, .any, .any, .any, .any, .any, .any, .any, .any, .any, .any, .any, .any, .any, .any, .any, .any, .any, .any, .any, .any, .any, .any, .any, .any, .any, .any], [], 0⟩
def halterlaw02_SoftLaws.j0_Q (t13 : Int) (a0 : Int) (a1 : Int) : (Unit) ⊕ (Unit) → Exit → St → Prop
  | .inl t => fun e s => e = .normal ∧ s = ⟨[.v (.one (.sc (.int .u64 a0))), .v (.one (.sc (.int .u64 a1))), .any, .any, .any, .any, .any, .any, .any, .any, .any, .any, .any, .any, .any, .any, .any, .any, .any, .any, .any, .any, .any, .any, .any, .any, .any, .any, .any, .any, .any, .any, .any, .any, .any, .any, .any, .any, .any, .any, .any, .any, .any, .any, .any, .any, .any, .any, .any, .any, .any, .any, .any, .any, .any, .any, .any, .any, .any, .any, .any, .any, .any, .any, .any, .any, .any, .any, .any, .any, .any, .any, .any, .any, .any, .any, .any, .any, .any, .any, .any, .any, .any, .any, .any, .any, .any, .any, .any, .any, .any, .any, .any, .any, .any, .any, .any, .any, .any, .any, .any, .any, .any, .any, .any, .any, .any, .any, .any, .any, .any, .any, .any, .any, .any, .any, .any, .any, .any, .any, .any, .any, .any, .any, .any, .any, .any, .any, .any, .any, .any, .any, .any, .any, .any, .any, .any, .any, .any, .any, .any, .any, .any, .any, .any, .any, .any, .any, .any, .any, .any, .any, .any], [], 0⟩
  | .inr t => fun e s => e = .ret ∧ s = ⟨[.any, .any, .any, .any, .any, .any, .v (.one (.sc (.bool false))), .any, .any, .any, .any, .any, .any, .any, .any, .any, .any, .any, .any, .any, .any, .any, .any, .any, .any, .any, .any, .any, .any, .any, .any, .any, .any, .any, .any, .any, .any, .any, .any, .any, .any, .any, .any, .any, .any, .any, .any, .any, .any, .any, .any, .any, .any, .any, .any, .any, .any, .any, .any, .any, .any, .any, .any, .any, .any, .any, .any, .any, .any, .any, .any, .any, .any, .any, .any, .any, .any, .any, .any, .any, .any, .any, .any, .any, .any, .any, .any, .any, .any, .any, .any, .any, .any, .any, .any, .any, .any, .any, .any, .any, .any, .any, .any, .any, .any, .any, .any, .any, .any, .any, .any, .any, .any, .any, .any, .any, .any, .any, .any, .any, .any, .any, .any, .any, .any, .any, .any, .any, .any, .any, .any, .any, .any, .any, .any, .any, .any, .any, .any, .any, .any, .any, .any, .any, .any, .any, .any, .any, .any, .any, .any, .any, .any], [], 0⟩
theorem halterlaw02_SoftLaws.j0_ok (t13 : Int) (a0 : Int) (a1 : Int) (r : (Unit) ⊕ (Unit)) (h : halterlaw02_SoftLaws.j0 t13 a0 a1 = some r) : Trip cfg (cpath (Try.f8.body.getD .skip) [1, 1, 0, 1]) (halterlaw02_SoftLaws.j0_S t13 a0 a1) (halterlaw02_SoftLaws.j0_Q t13 a0 a1 r) := by
  unfold halterlaw02_SoftLaws.j0 at h
  refine Trip.of_run cfg_ok (k := (.br (.call true [] (Int) (fun t43 => soft_Add.R t43) (fun t43 => (.br (.one true (.one true (.one true (.one true (.one true (.one true (.one true (.one true (.one true (.one true (.one true (.one true (.one true (.one true (.one true (.one true (.one true (.one true (.one true (.one true (.one true (.one true (.one true (.one true (.adj [] (.adj [.keep [6], .drop 0] .nil)))))))))))))))))))))))))) (.one false (.one false (.call true [] (Int) (fun t45 => soft_Mul.R t45) (fun t45 => (.one false (.one false (.br (.one true (.one true (.one true (.one true (.one true (.one true (.one true (.one true (.one true (.one true (.one true (.one true (.one true (.one true (.one true (.one true (.one true (.one true (.one true (.adj [] (.adj [.keep [6], .drop 0] .nil))))))))))))))))))))) (.one false (.one false (.call true [] (Int) (fun t47 => soft_Div.R t47) (fun t47 => (.one false (.one false (.br (.one true (.one true (.one true (.one true (.one true (.one true (.one true (.one true (.one true (.one true (.one true (.one true (.one true (.one true (.adj [] (.adj [.keep [6], .drop 0] .nil)))))))))))))))) (.one false (.call true [] (Int) (fun t49 => soft_Sqrt.R t49) (fun t49 => (.one false (.one false (.br (.one true (.one true (.one true (.one true (.one true (.one true (.one true (.one true (.one true (.one true (.adj [] (.adj [.keep [6], .drop 0] .nil)))))))))))) (.one false (.one false (.call true [] (Int) (fun t51 => soft_Cmp.R t51) (fun t51 => (.one false (.one false (.br (.one true (.one true (.one true (.one true (.one true (.adj [] (.adj [.keep [6], .drop 0] .nil))))))) (.one false (.one false (.call true [] (Int) (fun t53 => soft_Min.R t53) (fun t53 => (.one false (.one false (.br (.adj [] (.adj [.keep [6], .drop 0] .nil)) (.adj [] (.adj [.keep [0, 1], .drop 0] .nil))))))))))))))))))))))))))))))))))))))) (.br (.call true [] (Int) (fun t56 => soft_Sub.R t56) (fun t56 => (.br (.one true (.one true (.one true (.one true (.one true (.adj [] (.adj [.keep [6], .drop 0] .nil))))))) (.one false (.call true [] (Int) (fun t58 => soft_Div.R t58) (fun t58 => (.one false (.one false (.one false (.br (.adj [] (.adj [.keep [6], .drop 0] .nil)) (.adj [] (.adj [.keep [0, 1], .drop 0] .nil)))))))))))) (.call true [] (Int) (fun t60 => soft_Sub.R t60) (fun t60 => (.br (.one true (.one true (.one true (.one true (.one true (.one true (.one true (.one true (.one true (.one true (.one true (.one true (.one true (.one true (.one true (.one true (.adj [] (.adj [.keep [6], .drop 0] .nil)))))))))))))))))) (.one false (.call true [] (Int) (fun t62 => soft_Add.R t62) (fun t62 => (.one false (.one false (.call true [] (Int) (fun t63 => soft_Cmp.R t63) (fun t63 => (.one false (.one false (.br (.one true (.one true (.one true (.one true (.one true (.one true (.one true (.one true (.one true (.one true (.adj [] (.adj [.keep [6], .drop 0] .nil)))))))))))) (.one false (.call true [] (Int) (fun t65 => soft_Mul.R t65) (fun t65 => (.one false (.one false (.one false (.br (.one true (.one true (.one true (.one true (.one true (.adj [] (.adj [.keep [6], .drop 0] .nil))))))) (.one false (.call true [] (Int) (fun t67 => soft_Div.R t67) (fun t67 => (.one false (.one false (.one false (.br (.adj [] (.adj [.keep [6], .drop 0] .nil)) (.adj [] (.adj [.keep [0, 1], .drop 0] .nil)))))))))))))))))))))))))))))))) (to_goal (q := (True) ∧ (((t13 == (4 : Int)) = true → (∃ t43 : Int, (Fun cfg 16 [.one (.sc (.int .u64 a0)), .one (.sc (.int .u64 a1))] [] (soft_Add.R t43) [] ∧ True) ∧ (True) ∧ (((t43 != (9221120237041090560 : Int)) = false → ((t43 != (9221120237041090560 : Int)) = false ∧ ((t43 != (9221120237041090560 : Int)) = false ∧ (∃ t45 : Int, (Fun cfg 9 [.one (.sc (.int .u64 a0)), .one (.sc (.int .u64 a1))] [] (soft_Mul.R t45) [] ∧ True) ∧ ((t43 != (9221120237041090560 : Int)) = false ∧ (True) ∧ ((t43 != (9221120237041090560 : Int)) = false ∧ (((t45 != (9221120237041090560 : Int)) = false → ((t45 != (9221120237041090560 : Int)) = false ∧ ((t45 != (9221120237041090560 : Int)) = false ∧ (∃ t47 : Int, (Fun cfg 11 [.one (.sc (.int .u64 a0)), .one (.sc (.int .u64 a1))] [] (soft_Div.R t47) [] ∧ True) ∧ ((t45 != (9221120237041090560 : Int)) = false ∧ (True) ∧ ((t45 != (9221120237041090560 : Int)) = false ∧ (((t47 != (9221120237041090560 : Int)) = false → ((t47 != (9221120237041090560 : Int)) = false ∧ (∃ t49 : Int, (Fun cfg 13 [.one (.sc (.int .u64 a0))] [] (soft_Sqrt.R t49) [] ∧ True) ∧ ((t47 != (9221120237041090560 : Int)) = false ∧ (True) ∧ ((t47 != (9221120237041090560 : Int)) = false ∧ (((t49 != (9221120237041090560 : Int)) = false → ((t49 != (9221120237041090560 : Int)) = false ∧ ((t49 != (9221120237041090560 : Int)) = false ∧ (∃ t51 : Int, (Fun cfg 24 [.one (.sc (.int .u64 a0)), .one (.sc (.int .u64 a1))] [] (soft_Cmp.R t51) [] ∧ True) ∧ ((t49 != (9221120237041090560 : Int)) = false ∧ (True) ∧ ((t49 != (9221120237041090560 : Int)) = false ∧ (((t51 != (2 : Int)) = false → ((t51 != (2 : Int)) = false ∧ ((t51 != (2 : Int)) = false ∧ (∃ t53 : Int, (Fun cfg 28 [.one (.sc (.int .u64 a1)), .one (.sc (.int .u64 a0))] [] (soft_Min.R t53) [] ∧ True) ∧ ((t51 != (2 : Int)) = false ∧ (True) ∧ ((t51 != (2 : Int)) = false ∧ (((t53 != (9221120237041090560 : Int)) = true → (True ∧ (((True) ∧ (True) ∧ True) ∧ halterlaw02_SoftLaws.j0_Q t13 a0 a1 r .ret ⟨[.any, .any, .any, .any, .any, .any, .v (.one (.sc (.bool false))), .any, .any, .any, .any, .any, .any, .any, .any, .any, .any, .any, .any, .any, .any, .any, .any, .any, .any, .any, .any, .any, .any, .any, .any, .any, .any, .any, .any, .any, .any, .any, .any, .any, .any, .any, .any, .any, .any, .any, .any, .any, .any, .any, .any, .any, .any, .any, .any, .any, .any, .any, .any, .any, .any, .any, .any, .any, .any, .any, .any, .any, .any, .any, .any, .any, .any, .any, .any, .any, .any, .any, .any, .any, .any, .any, .any, .any, .any, .any, .any, .any, .any, .any, .any, .any, .any, .any, .any, .any, .any, .any, .any, .any, .any, .any, .any, .any, .any, .any, .any, .any, .any, .any, .any, .any, .any, .any, .any, .any, .any, .any, .any, .any, .any, .any, .any, .any, .any, .any, .any, .any, .any, .any, .any, .any, .any, .any, .any, .any, .any, .any, .any, .any, .any, .any, .any, .any, .any, .any, .any, .any, .any, .any, .any, .any, .any], [], 0⟩))) ∧ ((t53 != (9221120237041090560 : Int)) = false → (True ∧ (((True) ∧ (True) ∧ True) ∧ halterlaw02_SoftLaws.j0_Q t13 a0 a1 r .normal ⟨[.v (.one (.sc (.int .u64 a0))), .v (.one (.sc (.int .u64 a1))), .any, .any, .any, .any, .any, .any, .any, .any, .any, .any, .any, .any, .any, .any, .any, .any, .any, .any, .any, .any, .any, .any, .any, .any, .any, .any, .any, .any, .any, .any, .any, .any, .any, .any, .any, .any, .any, .any, .any, .any, .any, .any, .any, .any, .any, .any, .any, .any, .any, .any, .any, .any, .any, .any, .any, .any, .any, .any, .any, .any, .any, .any, .any, .any, .any, .any, .any, .any, .any, .any, .any, .any, .any, .any, .any, .any, .any, .any, .any, .any, .any, .any, .any, .any, .any, .any, .any, .any, .any, .any, .any, .any, .any, .any, .any, .any, .any, .any, .any, .any, .any, .any, .any, .any, .any, .any, .any, .any, .any, .any, .any, .any, .any, .any, .any, .any, .any, .any, .any, .any, .any, .any, .any, .any, .any, .any, .any, .any, .any, .any, .any, .any, .any, .any, .any, .any, .any, .any, .any, .any, .any, .any, .any, .any, .any, .any, .any, .any, .any, .any, .any], [], 0⟩)))))))))) ∧ ((t51 != (2 : Int)) = true → ((t51 != (2 : Int)) = true ∧ ((t51 != (2 : Int)) = true ∧ ((t51 != (2 : Int)) = true ∧ ((t51 != (2 : Int)) = true ∧ (true = true ∧ (True ∧ (((True) ∧ (True) ∧ True) ∧ halterlaw02_SoftLaws.j0_Q t13 a0 a1 r .ret ⟨[.any, .any, .any, .any, .any, .any, .v (.one (.sc (.bool false))), .any, .any, .any, .any, .any, .any, .any, .any, .any, .any, .any, .any, .any, .any, .any, .any, .any, .any, .any, .any, .any, .any, .any, .any, .any, .any, .any, .any, .any, .any, .any, .any, .any, .any, .any, .any, .any, .any, .any, .any, .any, .any, .any, .any, .any, .any, .any, .any, .any, .any, .any, .any, .any, .any, .any, .any, .any, .any, .any, .any, .any, .any, .any, .any, .any, .any, .any, .any, .any, .any, .any, .any, .any, .any, .any, .any, .any, .any, .any, .any, .any, .any, .any, .any, .any, .any, .any, .any, .any, .any, .any, .any, .any, .any, .any, .any, .any, .any, .any, .any, .any, .any, .any, .any, .any, .any, .any, .any, .any, .any, .any, .any, .any, .any, .any, .any, .any, .any, .any, .any, .any, .any, .any, .any, .any, .any, .any, .any, .any, .any, .any, .any, .any, .any, .any, .any, .any, .any, .any, .any, .any, .any, .any, .any, .any, .any], [], 0⟩))))))))))))))) ∧ ((t49 != (9221120237041090560 : Int)) = true → ((t49 != (9221120237041090560 : Int)) = true ∧ ((t49 != (9221120237041090560 : Int)) = true ∧ ((t49 != (9221120237041090560 : Int)) = true ∧ ((t49 != (9221120237041090560 : Int)) = true ∧ (true = true ∧ (true = true ∧ (true = true ∧ (true = true ∧ (true = true ∧ (true = true ∧ (True ∧ (((True) ∧ (True) ∧ True) ∧ halterlaw02_SoftLaws.j0_Q t13 a0 a1 r .ret ⟨[.any, .any, .any, .any, .any, .any, .v (.one (.sc (.bool false))), .any, .any, .any, .any, .any, .any, .any, .any, .any, .any, .any, .any, .any, .any, .any, .any, .any, .any, .any, .any, .any, .any, .any, .any, .any, .any, .any, .any, .any, .any, .any, .any, .any, .any, .any, .any, .any, .any, .any, .any, .any, .any, .any, .any, .any, .any, .any, .any, .any, .any, .any, .any, .any, .any, .any, .any, .any, .any, .any, .any, .any, .any, .any, .any, .any, .any, .any, .any, .any, .any, .any, .any, .any, .any, .any, .any, .any, .any, .any, .any, .any, .any, .any, .any, .any, .any, .any, .any, .any, .any, .any, .any, .any, .any, .any, .any, .any, .any, .any, .any, .any, .any, .any, .any, .any, .any, .any, .any, .any, .any, .any, .any, .any, .any, .any, .any, .any, .any, .any, .any, .any, .any, .any, .any, .any, .any, .any, .any, .any, .any, .any, .any, .any, .any, .any, .any, .any, .any, .any, .any, .any, .any, .any, .any, .any, .any], [], 0⟩))))))))))))))))))) ∧ ((t47 != (9221120237041090560 : Int)) = true → ((t47 != (9221120237041090560 : Int)) = true ∧ ((t47 != (9221120237041090560 : Int)) = true ∧ ((t47 != (9221120237041090560 : Int)) = true ∧ (true = true ∧ (true = true ∧ (true = true ∧ (true = true ∧ (true = true ∧ (true = true ∧ (true = true ∧ (true = true ∧ (true = true ∧ (true = true ∧ (true = true ∧ (True ∧ (((True) ∧ (True) ∧ True) ∧ halterlaw02_SoftLaws.j0_Q t13 a0 a1 r .ret ⟨[.any, .any, .any, .any, .any, .any, .v (.one (.sc (.bool false))), .any, .any, .any, .any, .any, .any, .any, .any, .any, .any, .any, .any, .any, .any, .any, .any, .any, .any, .any, .any, .any, .any, .any, .any, .any, .any, .any, .any, .any, .any, .any, .any, .any, .any, .any, .any, .any, .any, .any, .any, .any, .any, .any, .any, .any, .any, .any, .any, .any, .any, .any, .any, .any, .any, .any, .any, .any, .any, .any, .any, .any, .any, .any, .any, .any, .any, .any, .any, .any, .any, .any, .any, .any, .any, .any, .any, .any, .any, .any, .any, .any, .any, .any, .any, .any, .any, .any, .any, .any, .any, .any, .any, .any, .any, .any, .any, .any, .any, .any, .any, .any, .any, .any, .any, .any, .any, .any, .any, .any, .any, .any, .any, .any, .any, .any, .any, .any, .any, .any, .any, .any, .any, .any, .any, .any, .any, .any, .any, .any, .any, .any, .any, .any, .any, .any, .any, .any, .any, .any, .any, .any, .any, .any, .any, .any, .any], [], 0⟩)))))))))))))))))))))))) ∧ ((t45 != (9221120237041090560 : Int)) = true → ((t45 != (9221120237041090560 : Int)) = true ∧ ((t45 != (9221120237041090560 : Int)) = true ∧ ((t45 != (9221120237041090560 : Int)) = true ∧ ((t45 != (9221120237041090560 : Int)) = true ∧ (true = true ∧ (true = true ∧ (true = true ∧ (true = true ∧ (true = true ∧ (true = true ∧ (true = true ∧ (true = true ∧ (true = true ∧ (true = true ∧ (true = true ∧ (true = true ∧ (true = true ∧ (true = true ∧ (true = true ∧ (True ∧ (((True) ∧ (True) ∧ True) ∧ halterlaw02_SoftLaws.j0_Q t13 a0 a1 r .ret ⟨[.any, .any, .any, .any, .any, .any, .v (.one (.sc (.bool false))), .any, .any, .any, .any, .any, .any, .any, .any, .any, .any, .any, .any, .any, .any, .any, .any, .any, .any, .any, .any, .any, .any, .any, .any, .any, .any, .any, .any, .any, .any, .any, .any, .any, .any, .any, .any, .any, .any, .any, .any, .any, .any, .any, .any, .any, .any, .any, .any, .any, .any, .any, .any, .any, .any, .any, .any, .any, .any, .any, .any, .any, .any, .any, .any, .any, .any, .any, .any, .any, .any, .any, .any, .any, .any, .any, .any, .any, .any, .any, .any, .any, .any, .any, .any, .any, .any, .any, .any, .any, .any, .any, .any, .any, .any, .any, .any, .any, .any, .any, .any, .any, .any, .any, .any, .any, .any, .any, .any, .any, .any, .any, .any, .any, .any, .any, .any, .any, .any, .any, .any, .any, .any, .any, .any, .any, .any, .any, .any, .any, .any, .any, .any, .any, .any, .any, .any, .any, .any, .any, .any, .any, .any, .any, .any, .any, .any], [], 0⟩))))))))))))))))))))))))))))) ∧ ((t43 != (9221120237041090560 : Int)) = true → ((t43 != (9221120237041090560 : Int)) = true ∧ ((t43 != (9221120237041090560 : Int)) = true ∧ ((t43 != (9221120237041090560 : Int)) = true ∧ ((t43 != (9221120237041090560 : Int)) = true ∧ (true = true ∧ (true = true ∧ (true = true ∧ (true = true ∧ (true = true ∧ (true = true ∧ (true = true ∧ (true = true ∧ (true = true ∧ (true = true ∧ (true = true ∧ (true = true ∧ (true = true ∧ (true = true ∧ (true = true ∧ (true = true ∧ (true = true ∧ (true = true ∧ (true = true ∧ (true = true ∧ (True ∧ (((True) ∧ (True) ∧ True) ∧ halterlaw02_SoftLaws.j0_Q t13 a0 a1 r .ret ⟨[.any, .any, .any, .any, .any, .any, .v (.one (.sc (.bool false))), .any, .any, .any, .any, .any, .any, .any, .any, .any, .any, .any, .any, .any, .any, .any, .any, .any, .any, .any, .any, .any, .any, .any, .any, .any, .any, .any, .any, .any, .any, .any, .any, .any, .any, .any, .any, .any, .any, .any, .any, .any, .any, .any, .any, .any, .any, .any, .any, .any, .any, .any, .any, .any, .any, .any, .any, .any, .any, .any, .any, .any, .any, .any, .any, .any, .any, .any, .any, .any, .any, .any, .any, .any, .any, .any, .any, .any, .any, .any, .any, .any, .any, .any, .any, .any, .any, .any, .any, .any, .any, .any, .any, .any, .any, .any, .any, .any, .any, .any, .any, .any, .any, .any, .any, .any, .any, .any, .any, .any, .any, .any, .any, .any, .any, .any, .any, .any, .any, .any, .any, .any, .any, .any, .any, .any, .any, .any, .any, .any, .any, .any, .any, .any, .any, .any, .any, .any, .any, .any, .any, .any, .any, .any, .any, .any, .any], [], 0⟩)))))))))))))))))))))))))))))) ∧ ((t13 == (4 : Int)) = false → (True) ∧ (((t13 == (3 : Int)) = true → (∃ t56 : Int, (Fun cfg 18 [.one (.sc (.int .u64 a0)), .one (.sc (.int .u64 a0))] [] (soft_Sub.R t56) [] ∧ True) ∧ (True) ∧ (((t56 != (9221120237041090560 : Int)) = false → ((t56 != (9221120237041090560 : Int)) = false ∧ (∃ t58 : Int, (Fun cfg 11 [.one (.sc (.int .u64 (4503599627370496 : Int))), .one (.sc (.int .u64 a0))] [] (soft_Div.R t58) [] ∧ True) ∧ ((t56 != (9221120237041090560 : Int)) = false ∧ ((9223372036854775808 : Int) ≠ 0) ∧ ((t56 != (9221120237041090560 : Int)) = false ∧ (True) ∧ ((t56 != (9221120237041090560 : Int)) = false ∧ ((((Int.tmod t58 (9223372036854775808 : Int)) != (0 : Int)) = true → (True ∧ (((True) ∧ (True) ∧ True) ∧ halterlaw02_SoftLaws.j0_Q t13 a0 a1 r .ret ⟨[.any, .any, .any, .any, .any, .any, .v (.one (.sc (.bool false))), .any, .any, .any, .any, .any, .any, .any, .any, .any, .any, .any, .any, .any, .any, .any, .any, .any, .any, .any, .any, .any, .any, .any, .any, .any, .any, .any, .any, .any, .any, .any, .any, .any, .any, .any, .any, .any, .any, .any, .any, .any, .any, .any, .any, .any, .any, .any, .any, .any, .any, .any, .any, .any, .any, .any, .any, .any, .any, .any, .any, .any, .any, .any, .any, .any, .any, .any, .any, .any, .any, .any, .any, .any, .any, .any, .any, .any, .any, .any, .any, .any, .any, .any, .any, .any, .any, .any, .any, .any, .any, .any, .any, .any, .any, .any, .any, .any, .any, .any, .any, .any, .any, .any, .any, .any, .any, .any, .any, .any, .any, .any, .any, .any, .any, .any, .any, .any, .any, .any, .any, .any, .any, .any, .any, .any, .any, .any, .any, .any, .any, .any, .any, .any, .any, .any, .any, .any, .any, .any, .any, .any, .any, .any, .any, .any, .any], [], 0⟩))) ∧ (((Int.tmod t58 (9223372036854775808 : Int)) != (0 : Int)) = false → (True ∧ (((True) ∧ (True) ∧ True) ∧ halterlaw02_SoftLaws.j0_Q t13 a0 a1 r .normal ⟨[.v (.one (.sc (.int .u64 a0))), .v (.one (.sc (.int .u64 a1))), .any, .any, .any, .any, .any, .any, .any, .any, .any, .any, .any, .any, .any, .any, .any, .any, .any, .any, .any, .any, .any, .any, .any, .any, .any, .any, .any, .any, .any, .any, .any, .any, .any, .any, .any, .any, .any, .any, .any, .any, .any, .any, .any, .any, .any, .any, .any, .any, .any, .any, .any, .any, .any, .any, .any, .any, .any, .any, .any, .any, .any, .any, .any, .any, .any, .any, .any, .any, .any, .any, .any, .any, .any, .any, .any, .any, .any, .any, .any, .any, .any, .any, .any, .any, .any, .any, .any, .any, .any, .any, .any, .any, .any, .any, .any, .any, .any, .any, .any, .any, .any, .any, .any, .any, .any, .any, .any, .any, .any, .any, .any, .any, .any, .any, .any, .any, .any, .any, .any, .any, .any, .any, .any, .any, .any, .any, .any, .any, .any, .any, .any, .any, .any, .any, .any, .any, .any, .any, .any, .any, .any, .any, .any, .any, .any, .any, .any, .any, .any, .any, .any], [], 0⟩)))))))))) ∧ ((t56 != (9221120237041090560 : Int)) = true → ((t56 != (9221120237041090560 : Int)) = true ∧ ((t56 != (9221120237041090560 : Int)) = true ∧ ((t56 != (9221120237041090560 : Int)) = true ∧ ((t56 != (9221120237041090560 : Int)) = true ∧ (true = true ∧ (True ∧ (((True) ∧ (True) ∧ True) ∧ halterlaw02_SoftLaws.j0_Q t13 a0 a1 r .ret ⟨[.any, .any, .any, .any, .any, .any, .v (.one (.sc (.bool false))), .any, .any, .any, .any, .any, .any, .any, .any, .any, .any, .any, .any, .any, .any, .any, .any, .any, .any, .any, .any, .any, .any, .any, .any, .any, .any, .any, .any, .any, .any, .any, .any, .any, .any, .any, .any, .any, .any, .any, .any, .any, .any, .any, .any, .any, .any, .any, .any, .any, .any, .any, .any, .any, .any, .any, .any, .any, .any, .any, .any, .any, .any, .any, .any, .any, .any, .any, .any, .any, .any, .any, .any, .any, .any, .any, .any, .any, .any, .any, .any, .any, .any, .any, .any, .any, .any, .any, .any, .any, .any, .any, .any, .any, .any, .any, .any, .any, .any, .any, .any, .any, .any, .any, .any, .any, .any, .any, .any, .any, .any, .any, .any, .any, .any, .any, .any, .any, .any, .any, .any, .any, .any, .any, .any, .any, .any, .any, .any, .any, .any, .any, .any, .any, .any, .any, .any, .any, .any, .any, .any, .any, .any, .any, .any, .any, .any], [], 0⟩))))))))))) ∧ ((t13 == (3 : Int)) = false → (∃ t60 : Int, (Fun cfg 18 [.one (.sc (.int .u64 a0)), .one (.sc (.int .u64 a0))] [] (soft_Sub.R t60) [] ∧ True) ∧ (True) ∧ (((t60 != (0 : Int)) = false → ((t60 != (0 : Int)) = false ∧ (∃ t62 : Int, (Fun cfg 16 [.one (.sc (.int .u64 a0)), .one (.sc (.int .u64 (0 : Int)))] [] (soft_Add.R t62) [] ∧ True) ∧ ((t60 != (0 : Int)) = false ∧ ((t60 != (0 : Int)) = false ∧ (∃ t63 : Int, (Fun cfg 24 [.one (.sc (.int .u64 t62)), .one (.sc (.int .u64 a0))] [] (soft_Cmp.R t63) [] ∧ True) ∧ ((t60 != (0 : Int)) = false ∧ (True) ∧ ((t60 != (0 : Int)) = false ∧ (((t63 != (0 : Int)) = false → ((t63 != (0 : Int)) = false ∧ (∃ t65 : Int, (Fun cfg 9 [.one (.sc (.int .u64 a0)), .one (.sc (.int .u64 (4607182418800017408 : Int)))] [] (soft_Mul.R t65) [] ∧ True) ∧ ((t63 != (0 : Int)) = false ∧ ((t63 != (0 : Int)) = false ∧ (True) ∧ ((t63 != (0 : Int)) = false ∧ (((t65 != a0) = false → ((t65 != a0) = false ∧ (∃ t67 : Int, (Fun cfg 11 [.one (.sc (.int .u64 a0)), .one (.sc (.int .u64 (4607182418800017408 : Int)))] [] (soft_Div.R t67) [] ∧ True) ∧ ((t65 != a0) = false ∧ ((t65 != a0) = false ∧ (True) ∧ ((t65 != a0) = false ∧ (((t67 != a0) = true → (True ∧ (((True) ∧ (True) ∧ True) ∧ halterlaw02_SoftLaws.j0_Q t13 a0 a1 r .ret ⟨[.any, .any, .any, .any, .any, .any, .v (.one (.sc (.bool false))), .any, .any, .any, .any, .any, .any, .any, .any, .any, .any, .any, .any, .any, .any, .any, .any, .any, .any, .any, .any, .any, .any, .any, .any, .any, .any, .any, .any, .any, .any, .any, .any, .any, .any, .any, .any, .any, .any, .any, .any, .any, .any, .any, .any, .any, .any, .any, .any, .any, .any, .any, .any, .any, .any, .any, .any, .any, .any, .any, .any, .any, .any, .any, .any, .any, .any, .any, .any, .any, .any, .any, .any, .any, .any, .any, .any, .any, .any, .any, .any, .any, .any, .any, .any, .any, .any, .any, .any, .any, .any, .any, .any, .any, .any, .any, .any, .any, .any, .any, .any, .any, .any, .any, .any, .any, .any, .any, .any, .any, .any, .any, .any, .any, .any, .any, .any, .any, .any, .any, .any, .any, .any, .any, .any, .any, .any, .any, .any, .any, .any, .any, .any, .any, .any, .any, .any, .any, .any, .any, .any, .any, .any, .any, .any, .any, .any], [], 0⟩))) ∧ ((t67 != a0) = false → (True ∧ (((True) ∧ (True) ∧ True) ∧ halterlaw02_SoftLaws.j0_Q t13 a0 a1 r .normal ⟨[.v (.one (.sc (.int .u64 a0))), .v (.one (.sc (.int .u64 a1))), .any, .any, .any, .any, .any, .any, .any, .any, .any, .any, .any, .any, .any, .any, .any, .any, .any, .any, .any, .any, .any, .any, .any, .any, .any, .any, .any, .any, .any, .any, .any, .any, .any, .any, .any, .any, .any, .any, .any, .any, .any, .any, .any, .any, .any, .any, .any, .any, .any, .any, .any, .any, .any, .any, .any, .any, .any, .any, .any, .any, .any, .any, .any, .any, .any, .any, .any, .any, .any, .any, .any, .any, .any, .any, .any, .any, .any, .any, .any, .any, .any, .any, .any, .any, .any, .any, .any, .any, .any, .any, .any, .any, .any, .any, .any, .any, .any, .any, .any, .any, .any, .any, .any, .any, .any, .any, .any, .any, .any, .any, .any, .any, .any, .any, .any, .any, .any, .any, .any, .any, .any, .any, .any, .any, .any, .any, .any, .any, .any, .any, .any, .any, .any, .any, .any, .any, .any, .any, .any, .any, .any, .any, .any, .any, .any, .any, .any, .any, .any, .any, .any], [], 0⟩)))))))))) ∧ ((t65 != a0) = true → ((t65 != a0) = true ∧ ((t65 != a0) = true ∧ ((t65 != a0) = true ∧ ((t65 != a0) = true ∧ (true = true ∧ (True ∧ (((True) ∧ (True) ∧ True) ∧ halterlaw02_SoftLaws.j0_Q t13 a0 a1 r .ret ⟨[.any, .any, .any, .any, .any, .any, .v (.one (.sc (.bool false))), .any, .any, .any, .any, .any, .any, .any, .any, .any, .any, .any, .any, .any, .any, .any, .any, .any, .any, .any, .any, .any, .any, .any, .any, .any, .any, .any, .any, .any, .any, .any, .any, .any, .any, .any, .any, .any, .any, .any, .any, .any, .any, .any, .any, .any, .any, .any, .any, .any, .any, .any, .any, .any, .any, .any, .any, .any, .any, .any, .any, .any, .any, .any, .any, .any, .any, .any, .any, .any, .any, .any, .any, .any, .any, .any, .any, .any, .any, .any, .any, .any, .any, .any, .any, .any, .any, .any, .any, .any, .any, .any, .any, .any, .any, .any, .any, .any, .any, .any, .any, .any, .any, .any, .any, .any, .any, .any, .any, .any, .any, .any, .any, .any, .any, .any, .any, .any, .any, .any, .any, .any, .any, .any, .any, .any, .any, .any, .any, .any, .any, .any, .any, .any, .any, .any, .any, .any, .any, .any, .any, .any, .any, .any, .any, .any, .any], [], 0⟩))))))))))))))) ∧ ((t63 != (0 : Int)) = true → ((t63 != (0 : Int)) = true ∧ ((t63 != (0 : Int)) = true ∧ ((t63 != (0 : Int)) = true ∧ ((t63 != (0 : Int)) = true ∧ (true = true ∧ (true = true ∧ (true = true ∧ (true = true ∧ (true = true ∧ (true = true ∧ (True ∧ (((True) ∧ (True) ∧ True) ∧ halterlaw02_SoftLaws.j0_Q t13 a0 a1 r .ret ⟨[.any, .any, .any, .any, .any, .any, .v (.one (.sc (.bool false))), .any, .any, .any, .any, .any, .any, .any, .any, .any, .any, .any, .any, .any, .any, .any, .any, .any, .any, .any, .any, .any, .any, .any, .any, .any, .any, .any, .any, .any, .any, .any, .any, .any, .any, .any, .any, .any, .any, .any, .any, .any, .any, .any, .any, .any, .any, .any, .any, .any, .any, .any, .any, .any, .any, .any, .any, .any, .any, .any, .any, .any, .any, .any, .any, .any, .any, .any, .any, .any, .any, .any, .any, .any, .any, .any, .any, .any, .any, .any, .any, .any, .any, .any, .any, .any, .any, .any, .any, .any, .any, .any, .any, .any, .any, .any, .any, .any, .any, .any, .any, .any, .any, .any, .any, .any, .any, .any, .any, .any, .any, .any, .any, .any, .any, .any, .any, .any, .any, .any, .any, .any, .any, .any, .any, .any, .any, .any, .any, .any, .any, .any, .any, .any, .any, .any, .any, .any, .any, .any, .any, .any, .any, .any, .any, .any, .any], [], 0⟩)))))))))))))))))))))) ∧ ((t60 != (0 : Int)) = true → ((t60 != (0 : Int)) = true ∧ ((t60 != (0 : Int)) = true ∧ ((t60 != (0 : Int)) = true ∧ ((t60 != (0 : Int)) = true ∧ ((t60 != (0 : Int)) = true ∧ (true = true ∧ (true = true ∧ (true = true ∧ (true = true ∧ (true = true ∧ (true = true ∧ (true = true ∧ (true = true ∧ (true = true ∧ (true = true ∧ (true = true ∧ (True ∧ (((True) ∧ (True) ∧ True) ∧ halterlaw02_SoftLaws.j0_Q t13 a0 a1 r .ret ⟨[.any, .any, .any, .any, .any, .any, .v (.one (.sc (.bool false))), .any, .any, .any, .any, .any, .any, .any, .any, .any, .any, .any, .any, .any, .any, .any, .any, .any, .any, .any, .any, .any, .any, .any, .any, .any, .any, .any, .any, .any, .any, .any, .any, .any, .any, .any, .any, .any, .any, .any, .any, .any, .any, .any, .any, .any, .any, .any, .any, .any, .any, .any, .any, .any, .any, .any, .any, .any, .any, .any, .any, .any, .any, .any, .any, .any, .any, .any, .any, .any, .any, .any, .any, .any, .any, .any, .any, .any, .any, .any, .any, .any, .any, .any, .any, .any, .any, .any, .any, .any, .any, .any, .any, .any, .any, .any, .any, .any, .any, .any, .any, .any, .any, .any, .any, .any, .any, .any, .any, .any, .any, .any, .any, .any, .any, .any, .any, .any, .any, .any, .any, .any, .any, .any, .any, .any, .any, .any, .any, .any, .any, .any, .any, .any, .any, .any, .any, .any, .any, .any, .any, .any, .any, .any, .any, .any, .any], [], 0⟩)))))))))))))))))))))))))) (by kernel_rfl) ?_)
  refine ⟨trivial, ?_⟩
  refine ⟨fun b42 => ?_, fun b42 => ?_⟩
  · rw [if_pos (beq_t b42)] at h
    obtain ⟨t43, ht43, h⟩ := of_bind h
    refine ⟨t43, ⟨soft_Add.fun_ ht43, trivial⟩, ?_⟩
    refine ⟨trivial, ?_⟩
    refine ⟨fun b44 => ?_, fun b44 => ?_⟩
    · rw [if_neg (not_not_intro (bne_f b44))] at h
      refine ⟨b44, ?_⟩
      refine ⟨b44, ?_⟩
      obtain ⟨t45, ht45, h⟩ := of_bind h
      refine ⟨t45, ⟨soft_Mul.fun_ ht45, trivial⟩, ?_⟩
      refine ⟨b44, ?_⟩
      refine ⟨trivial, ?_⟩
      refine ⟨b44, ?_⟩
      refine ⟨fun b46 => ?_, fun b46 => ?_⟩
      · rw [if_neg (not_not_intro (bne_f b46))] at h
        refine ⟨b46, ?_⟩
        refine ⟨b46, ?_⟩
        obtain ⟨t47, ht47, h⟩ := of_bind h
        refine ⟨t47, ⟨soft_Div.fun_ ht47, trivial⟩, ?_⟩
        refine ⟨b46, ?_⟩
        refine ⟨trivial, ?_⟩
        refine ⟨b46, ?_⟩
        refine ⟨fun b48 => ?_, fun b48 => ?_⟩
        · rw [if_neg (not_not_intro (bne_f b48))] at h
          refine ⟨b48, ?_⟩
          obtain ⟨t49, ht49, h⟩ := of_bind h
          refine ⟨t49, ⟨soft_Sqrt.fun_ ht49, trivial⟩, ?_⟩
          refine ⟨b48, ?_⟩
          refine ⟨trivial, ?_⟩
          refine ⟨b48, ?_⟩
          refine ⟨fun b50 => ?_, fun b50 => ?_⟩
          · rw [if_neg (not_not_intro (bne_f b50))] at h
            refine ⟨b50, ?_⟩
            refine ⟨b50, ?_⟩
            obtain ⟨t51, ht51, h⟩ := of_bind h
            refine ⟨t51, ⟨soft_Cmp.fun_ ht51, trivial⟩, ?_⟩
            refine ⟨b50, ?_⟩
            refine ⟨trivial, ?_⟩
            refine ⟨b50, ?_⟩
            refine ⟨fun b52 => ?_, fun b52 => ?_⟩
            · rw [if_neg (not_not_intro (bne_f b52))] at h
              refine ⟨b52, ?_⟩
              refine ⟨b52, ?_⟩
              obtain ⟨t53, ht53, h⟩ := of_bind h
              refine ⟨t53, ⟨soft_Min.fun_ ht53, trivial⟩, ?_⟩
              refine ⟨b52, ?_⟩
              refine ⟨trivial, ?_⟩
              refine ⟨b52, ?_⟩
              refine ⟨fun b54 => ?_, fun b54 => ?_⟩
              · rw [if_pos (bne_t b54)] at h
                refine ⟨trivial, ?_⟩
                obtain rfl := Option.some.inj h
                exact ⟨⟨trivial, trivial, trivial⟩, rfl, rfl⟩
              · rw [if_neg (not_not_intro (bne_f b54))] at h
                refine ⟨trivial, ?_⟩
                obtain rfl := Option.some.inj h
                exact ⟨⟨trivial, trivial, trivial⟩, rfl, rfl⟩
            · rw [if_pos (bne_t b52)] at h
              refine ⟨b52, ?_⟩
              refine ⟨b52, ?_⟩
              refine ⟨b52, ?_⟩
              refine ⟨b52, ?_⟩
              refine ⟨rfl, ?_⟩
              refine ⟨trivial, ?_⟩
              obtain rfl := Option.some.inj h
              exact ⟨⟨trivial, trivial, trivial⟩, rfl, rfl⟩
          · rw [if_pos (bne_t b50)] at h
            refine ⟨b50, ?_⟩
            refine ⟨b50, ?_⟩
            refine ⟨b50, ?_⟩
            refine ⟨b50, ?_⟩
            refine ⟨rfl, ?_⟩
            refine ⟨rfl, ?_⟩
            refine ⟨rfl, ?_⟩
            refine ⟨rfl, ?_⟩
            refine ⟨rfl, ?_⟩
            refine ⟨rfl, ?_⟩
            refine ⟨trivial, ?_⟩
            obtain rfl := Option.some.inj h
            exact ⟨⟨trivial, trivial, trivial⟩, rfl, rfl⟩
        · rw [if_pos (bne_t b48)] at h
          refine ⟨b48, ?_⟩
          refine ⟨b48, ?_⟩
          refine ⟨b48, ?_⟩
          refine ⟨rfl, ?_⟩
          refine ⟨rfl, ?_⟩
          refine ⟨rfl, ?_⟩
          refine ⟨rfl, ?_⟩
          refine ⟨rfl, ?_⟩
          refine ⟨rfl, ?_⟩
          refine ⟨rfl, ?_⟩
          refine ⟨rfl, ?_⟩
          refine ⟨rfl, ?_⟩
          refine ⟨rfl, ?_⟩
          refine ⟨rfl, ?_⟩
          refine ⟨trivial, ?_⟩
          obtain rfl := Option.some.inj h
          exact ⟨⟨trivial, trivial, trivial⟩, rfl, rfl⟩
      · rw [if_pos (bne_t b46)] at h
        refine ⟨b46, ?_⟩
        refine ⟨b46, ?_⟩
        refine ⟨b46, ?_⟩
        refine ⟨b46, ?_⟩
        refine ⟨rfl, ?_⟩
        refine ⟨rfl, ?_⟩
        refine ⟨rfl, ?_⟩
        refine ⟨rfl, ?_⟩
        refine ⟨rfl, ?_⟩
        refine ⟨rfl, ?_⟩
        refine ⟨rfl, ?_⟩
        refine ⟨rfl, ?_⟩
        refine ⟨rfl, ?_⟩
        refine ⟨rfl, ?_⟩
        refine ⟨rfl, ?_⟩
        refine ⟨rfl, ?_⟩
        refine ⟨rfl, ?_⟩
        refine ⟨rfl, ?_⟩
        refine ⟨rfl, ?_⟩
        refine ⟨trivial, ?_⟩
        obtain rfl := Option.some.inj h
        exact ⟨⟨trivial, trivial, trivial⟩, rfl, rfl⟩
    · rw [if_pos (bne_t b44)] at h
      refine ⟨b44, ?_⟩
      refine ⟨b44, ?_⟩
      refine ⟨b44, ?_⟩
      refine ⟨b44, ?_⟩
      refine ⟨rfl, ?_⟩
      refine ⟨rfl, ?_⟩
      refine ⟨rfl, ?_⟩
      refine ⟨rfl, ?_⟩
      refine ⟨rfl, ?_⟩
      refine ⟨rfl, ?_⟩
      refine ⟨rfl, ?_⟩
      refine ⟨rfl, ?_⟩
      refine ⟨rfl, ?_⟩
      refine ⟨rfl, ?_⟩
      refine ⟨rfl, ?_⟩
      refine ⟨rfl, ?_⟩
      refine ⟨rfl, ?_⟩
      refine ⟨rfl, ?_⟩
      refine ⟨rfl, ?_⟩
      refine ⟨rfl, ?_⟩
      refine ⟨rfl, ?_⟩
      refine ⟨rfl, ?_⟩
      refine ⟨rfl, ?_⟩
      refine ⟨rfl, ?_⟩
      refine ⟨trivial, ?_⟩
      obtain rfl := Option.some.inj h
      exact ⟨⟨trivial, trivial, trivial⟩, rfl, rfl⟩
  · rw [if_neg (beq_f b42)] at h
    refine ⟨trivial, ?_⟩
    refine ⟨fun b55 => ?_, fun b55 => ?_⟩
    · rw [if_pos (beq_t b55)] at h
      obtain ⟨t56, ht56, h⟩ := of_bind h
      refine ⟨t56, ⟨soft_Sub.fun_ ht56, trivial⟩, ?_⟩
      refine ⟨trivial, ?_⟩
      refine ⟨fun b57 => ?_, fun b57 => ?_⟩
      · rw [if_neg (not_not_intro (bne_f b57))] at h
        refine ⟨b57, ?_⟩
        obtain ⟨t58, ht58, h⟩ := of_bind h
        refine ⟨t58, ⟨soft_Div.fun_ ht58, trivial⟩, ?_⟩
        refine ⟨b57, ?_⟩
        refine ⟨(by decide), ?_⟩
        refine ⟨b57, ?_⟩
        refine ⟨trivial, ?_⟩
        refine ⟨b57, ?_⟩
        refine ⟨fun b59 => ?_, fun b59 => ?_⟩
        · rw [if_pos (bne_t b59)] at h
          refine ⟨trivial, ?_⟩
          obtain rfl := Option.some.inj h
          exact ⟨⟨trivial, trivial, trivial⟩, rfl, rfl⟩
        · rw [if_neg (not_not_intro (bne_f b59))] at h
          refine ⟨trivial, ?_⟩
          obtain rfl := Option.some.inj h
          exact ⟨⟨trivial, trivial, trivial⟩, rfl, rfl⟩
      · rw [if_pos (bne_t b57)] at h
        refine ⟨b57, ?_⟩
        refine ⟨b57, ?_⟩
        refine ⟨b57, ?_⟩
        refine ⟨b57, ?_⟩
        refine ⟨rfl, ?_⟩
        refine ⟨trivial, ?_⟩
        obtain rfl := Option.some.inj h
        exact ⟨⟨trivial, trivial, trivial⟩, rfl, rfl⟩
    · rw [if_neg (beq_f b55)] at h
      obtain ⟨t60, ht60, h⟩ := of_bind h
      refine ⟨t60, ⟨soft_Sub.fun_ ht60, trivial⟩, ?_⟩
      refine ⟨trivial, ?_⟩
      refine ⟨fun b61 => ?_, fun b61 => ?_⟩
      · rw [if_neg (not_not_intro (bne_f b61))] at h
        refine ⟨b61, ?_⟩
        obtain ⟨t62, ht62, h⟩ := of_bind h
        refine ⟨t62, ⟨soft_Add.fun_ ht62, trivial⟩, ?_⟩
        refine ⟨b61, ?_⟩
        refine ⟨b61, ?_⟩
        obtain ⟨t63, ht63, h⟩ := of_bind h
        refine ⟨t63, ⟨soft_Cmp.fun_ ht63, trivial⟩, ?_⟩
        refine ⟨b61, ?_⟩
        refine ⟨trivial, ?_⟩
        refine ⟨b61, ?_⟩
        refine ⟨fun b64 => ?_, fun b64 => ?_⟩
        · rw [if_neg (not_not_intro (bne_f b64))] at h
          refine ⟨b64, ?_⟩
          obtain ⟨t65, ht65, h⟩ := of_bind h
          refine ⟨t65, ⟨soft_Mul.fun_ ht65, trivial⟩, ?_⟩
          refine ⟨b64, ?_⟩
          refine ⟨b64, ?_⟩
          refine ⟨trivial, ?_⟩
          refine ⟨b64, ?_⟩
          refine ⟨fun b66 => ?_, fun b66 => ?_⟩
          · rw [if_neg (not_not_intro (bne_f b66))] at h
            refine ⟨b66, ?_⟩
            obtain ⟨t67, ht67, h⟩ := of_bind h
            refine ⟨t67, ⟨soft_Div.fun_ ht67, trivial⟩, ?_⟩
            refine ⟨b66, ?_⟩
            refine ⟨b66, ?_⟩
            refine ⟨trivial, ?_⟩
            refine ⟨b66, ?_⟩
            refine ⟨fun b68 => ?_, fun b68 => ?_⟩
            · rw [if_pos (bne_t b68)] at h
              refine ⟨trivial, ?_⟩
              obtain rfl := Option.some.inj h
              exact ⟨⟨trivial, trivial, trivial⟩, rfl, rfl⟩
            · rw [if_neg (not_not_intro (bne_f b68))] at h
              refine ⟨trivial, ?_⟩
              obtain rfl := Option.some.inj h
              exact ⟨⟨trivial, trivial, trivial⟩, rfl, rfl⟩
          · rw [if_pos (bne_t b66)] at h
            refine ⟨b66, ?_⟩
            refine ⟨b66, ?_⟩
            refine ⟨b66, ?_⟩
            refine ⟨b66, ?_⟩
            refine ⟨rfl, ?_⟩
            refine ⟨trivial, ?_⟩
            obtain rfl := Option.some.inj h
            exact ⟨⟨trivial, trivial, trivial⟩, rfl, rfl⟩
        · rw [if_pos (bne_t b64)] at h
          refine ⟨b64, ?_⟩
          refine ⟨b64, ?_⟩
          refine ⟨b64, ?_⟩
          refine ⟨b64, ?_⟩
          refine ⟨rfl, ?_⟩
          refine ⟨rfl, ?_⟩
          refine ⟨rfl, ?_⟩
          refine ⟨rfl, ?_⟩
          refine ⟨rfl, ?_⟩
          refine ⟨rfl, ?_⟩
          refine ⟨trivial, ?_⟩
          obtain rfl := Option.some.inj h
          exact ⟨⟨trivial, trivial, trivial⟩, rfl, rfl⟩
      · rw [if_pos (bne_t b61)] at h
        refine ⟨b61, ?_⟩
        refine ⟨b61, ?_⟩
        refine ⟨b61, ?_⟩
        refine ⟨b61, ?_⟩
        refine ⟨b61, ?_⟩
        refine ⟨rfl, ?_⟩
        refine ⟨rfl, ?_⟩
        refine ⟨rfl, ?_⟩
        refine ⟨rfl, ?_⟩
        refine ⟨rfl, ?_⟩
        refine ⟨rfl, ?_⟩
        refine ⟨rfl, ?_⟩
        refine ⟨rfl, ?_⟩
        refine ⟨rfl, ?_⟩
        refine ⟨rfl, ?_⟩
        refine ⟨rfl, ?_⟩
        refine ⟨trivial, ?_⟩
        obtain rfl := Option.some.inj h
        exact ⟨⟨trivial, trivial, trivial⟩, rfl, rfl⟩
def halterlaw02_SoftLaws.f (a0 : Int) (a1 : Int) (a2 : Int) : Option Bool :=
  (soft_Add.f a0 a1).bind fun t1 =>
  (soft_Add.f a1 a0).bind fun t2 =>
  if ¬ t1 = t2 then
    some false
  else
    (soft_Mul.f a0 a1).bind fun t4 =>
    (soft_Mul.f a1 a0).bind fun t5 =>
    if ¬ t4 = t5 then
      some false
    else
      (soft_FromInt.f a2).bind fun t7 =>
      (soft_ToInt.f t7).bind fun t8 =>
      if ¬ t8 = a2 then
        some false
      else
        (soft_Order.f a0 a1).bind fun t10 =>
        (soft_Order.f a1 a0).bind fun t11 =>
        if ¬ t10 = (IntKind.wrap .i64 (0 - t11)) then
          some false
        else
          (soft_Class.f a0).bind fun t13 =>
          (halterlaw02_SoftLaws.j0 t13 a0 a1).bind fun t41 =>
          match t41 with
          | .inl t69 =>
            (soft_Class.f a0).bind fun t70 =>
            if ¬ t70 = (4 : Int) then
              (soft_Class.f a1).bind fun t72 =>
              if ¬ t72 = (4 : Int) then
                (soft_Min.f a0 a1).bind fun t74 =>
                (soft_Max.f a0 a1).bind fun t75 =>
                (soft_Order.f t74 t75).bind fun t76 =>
                if t76 > (0 : Int) then
                  some false
                else
                  if ¬ t74 = a0 then
                    if ¬ t74 = a1 then
                      some false
                    else
                      if ¬ t75 = a0 then
                        if ¬ t75 = a1 then
                          some false
                        else
                          halterlaw02_sure.f.bind fun t82 =>
                          some t82
                      else
                        halterlaw02_sure.f.bind fun t83 =>
                        some t83
                  else
                    if ¬ t75 = a0 then
                      if ¬ t75 = a1 then
                        some false
                      else
                        halterlaw02_sure.f.bind fun t86 =>
                        some t86
                    else
                      halterlaw02_sure.f.bind fun t87 =>
                      some t87
              else
                halterlaw02_sure.f.bind fun t88 =>
                some t88
            else
              halterlaw02_sure.f.bind fun t89 =>
              some t89
          | .inr t90 =>
            some false
def halterlaw02_SoftLaws.R (r : Bool) : Tm := .v (.one (.sc (.bool r)))
theorem halterlaw02_SoftLaws.fun_ {a0 : Int} {a1 : Int} {a2 : Int} {r : Bool} (h : halterlaw02_SoftLaws.f a0 a1 a2 = some r) : Fun cfg 8 [.one (.sc (.int .u64 a0)), .one (.sc (.int .u64 a1)), .one (.sc (.int .u32 a2))] [] (halterlaw02_SoftLaws.R r) [] := by
  unfold halterlaw02_SoftLaws.f at h
  refine fun_of_run cfg_ok (f := 8) (fn := Try.f8) Try.func8 rfl (by kernel_rfl) (rs := [.tmp 6]) rfl (nt := 153) rfl (l := fin) (k := (.call true [] (Int) (fun t1 => soft_Add.R t1) (fun t1 => (.call true [] (Int) (fun t2 => soft_Add.R t2) (fun t2 => (.br (.one true (.one true (.one true (.one true (.one true (.one true (.one true (.one true (.one true (.one true (.one true (.one true (.one true (.one true (.one true (.one true (.one true (.one true (.one true (.one true (.one true (.one true (.one true (.adj [] (.adj [] (.adj [] .nil)))))))))))))))))))))))))) (.one false (.one false (.call true [] (Int) (fun t4 => soft_Mul.R t4) (fun t4 => (.one false (.one false (.one false (.call true [] (Int) (fun t5 => soft_Mul.R t5) (fun t5 => (.one false (.one false (.br (.one true (.one true (.one true (.one true (.one true (.one true (.one true (.one true (.one true (.one true (.one true (.one true (.one true (.one true (.one true (.adj [] (.adj [] (.adj [] .nil)))))))))))))))))) (.one false (.call true [] (Int) (fun t7 => soft_FromInt.R t7) (fun t7 => (.one false (.call true [] (Int) (fun t8 => soft_ToInt.R t8) (fun t8 => (.one false (.one false (.one false (.br (.one true (.one true (.one true (.one true (.one true (.one true (.one true (.one true (.one true (.adj [] (.adj [] (.adj [] .nil)))))))))))) (.one false (.one false (.call true [] (Int) (fun t10 => soft_Order.R t10) (fun t10 => (.one false (.one false (.one false (.call true [] (Int) (fun t11 => soft_Order.R t11) (fun t11 => (.one false (.one false (.one false (.br (.adj [] (.adj [] (.adj [] .nil))) (.call true [] (Int) (fun t13 => soft_Class.R t13) (fun t13 => (.adj [.keep [0, 1, 43]] (.altb (.blk (Unit) (fun _ => .normal) (fun t69 => ⟨[.v (.one (.sc (.int .u64 a0))), .v (.one (.sc (.int .u64 a1))), .any, .any, .any, .any, .any, .any, .any, .any, .any, .any, .any, .any, .any, .any, .any, .any, .any, .any, .any, .any, .any, .any, .any, .any, .any, .any, .any, .any, .any, .any, .any, .any, .any, .any, .any, .any, .any, .any, .any, .any, .any, .any, .any, .any, .any, .any, .any, .any, .any, .any, .any, .any, .any, .any, .any, .any, .any, .any, .any, .any, .any, .any, .any, .any, .any, .any, .any, .any, .any, .any, .any, .any, .any, .any, .any, .any, .any, .any, .any, .any, .any, .any, .any, .any, .any, .any, .any, .any, .any, .any, .any, .any, .any, .any, .any, .any, .any, .any, .any, .any, .any, .any, .any, .any, .any, .any, .any, .any, .any, .any, .any, .any, .any, .any, .any, .any, .any, .any, .any, .any, .any, .any, .any, .any, .any, .any, .any, .any, .any, .any, .any, .any, .any, .any, .any, .any, .any, .any, .any, .any, .any, .any, .any, .any, .any, .any, .any, .any, .any, .any, .any], [], 0⟩) (fun t69 => (.call true [] (Int) (fun t70 => soft_Class.R t70) (fun t70 => (.br (.one true (.call true [] (Int) (fun t72 => soft_Class.R t72) (fun t72 => (.one true (.one true (.br (.call true [] (Int) (fun t74 => soft_Min.R t74) (fun t74 => (.call true [] (Int) (fun t75 => soft_Max.R t75) (fun t75 => (.call true [] (Int) (fun t76 => soft_Order.R t76) (fun t76 => (.br (.one true (.one true (.one true (.one true (.one true (.one true (.one true (.one true (.one true (.one true (.one true (.one true (.adj [] (.adj [] (.adj [] .nil))))))))))))))) (.one false (.one false (.one false (.br (.one true (.one true (.one false (.one true (.one false (.br (.one true (.one true (.one true (.one true (.one true (.one true (.adj [] (.adj [] (.adj [] .nil))))))))) (.one false (.one false (.one false (.br (.one true (.one true (.one false (.one true (.one false (.br (.adj [] (.adj [] (.adj [] .nil))) (.call true [] (Bool) (fun t82 => halterlaw02_sure.R t82) (fun t82 => (.adj [] (.adj [] .nil)))))))))) (.one false (.one false (.one false (.one false (.one false (.one false (.call true [] (Bool) (fun t83 => halterlaw02_sure.R t83) (fun t83 => (.adj [] (.adj [] .nil)))))))))))))))))))) (.one false (.one false (.one false (.one false (.one false (.one false (.one false (.one false (.one false (.br (.one true (.one true (.one false (.one true (.one false (.br (.adj [] (.adj [] (.adj [] .nil))) (.call true [] (Bool) (fun t86 => halterlaw02_sure.R t86) (fun t86 => (.adj [] (.adj [] .nil)))))))))) (.one false (.one false (.one false (.one false (.one false (.one false (.call true [] (Bool) (fun t87 => halterlaw02_sure.R t87) (fun t87 => (.adj [] (.adj [] .nil))))))))))))))))))))))))))))))) (.call true [] (Bool) (fun t88 => halterlaw02_sure.R t88) (fun t88 => (.adj [] (.adj [] .nil)))))))))) (.one false (.one false (.one false (.one false (.call true [] (Bool) (fun t89 => halterlaw02_sure.R t89) (fun t89 => (.adj [] (.adj [] .nil))))))))))))) (.blk (Unit) (fun _ => .ret) (fun t90 => ⟨[.any, .any, .any, .any, .any, .any, .v (.one (.sc (.bool false))), .any, .any, .any, .any, .any, .any, .any, .any, .any, .any, .any, .any, .any, .any, .any, .any, .any, .any, .any, .any, .any, .any, .any, .any, .any, .any, .any, .any, .any, .any, .any, .any, .any, .any, .any, .any, .any, .any, .any, .any, .any, .any, .any, .any, .any, .any, .any, .any, .any, .any, .any, .any, .any, .any, .any, .any, .any, .any, .any, .any, .any, .any, .any, .any, .any, .any, .any, .any, .any, .any, .any, .any, .any, .any, .any, .any, .any, .any, .any, .any, .any, .any, .any, .any, .any, .any, .any, .any, .any, .any, .any, .any, .any, .any, .any, .any, .any, .any, .any, .any, .any, .any, .any, .any, .any, .any, .any, .any, .any, .any, .any, .any, .any, .any, .any, .any, .any, .any, .any, .any, .any, .any, .any, .any, .any, .any, .any, .any, .any, .any, .any, .any, .any, .any, .any, .any, .any, .any, .any, .any, .any, .any, .any, .any, .any, .any], [], 0⟩) (fun t90 => (.adj [] .nil)))))))))))))))))))))))))))))))))))))))))))))))) (to_goal (q := (∃ t1 : Int, (Fun cfg 16 [.one (.sc (.int .u64 a0)), .one (.sc (.int .u64 a1))] [] (soft_Add.R t1) [] ∧ True) ∧ (∃ t2 : Int, (Fun cfg 16 [.one (.sc (.int .u64 a1)), .one (.sc (.int .u64 a0))] [] (soft_Add.R t2) [] ∧ True) ∧ (True) ∧ (((t1 != t2) = false → ((t1 != t2) = false ∧ ((t1 != t2) = false ∧ (∃ t4 : Int, (Fun cfg 9 [.one (.sc (.int .u64 a0)), .one (.sc (.int .u64 a1))] [] (soft_Mul.R t4) [] ∧ True) ∧ ((t1 != t2) = false ∧ ((t1 != t2) = false ∧ ((t1 != t2) = false ∧ (∃ t5 : Int, (Fun cfg 9 [.one (.sc (.int .u64 a1)), .one (.sc (.int .u64 a0))] [] (soft_Mul.R t5) [] ∧ True) ∧ ((t1 != t2) = false ∧ (True) ∧ ((t1 != t2) = false ∧ (((t4 != t5) = false → ((t4 != t5) = false ∧ (∃ t7 : Int, (Fun cfg 23 [.one (.sc (.int .u32 a2))] [] (soft_FromInt.R t7) [] ∧ True) ∧ ((t4 != t5) = false ∧ (∃ t8 : Int, (Fun cfg 25 [.one (.sc (.int .u64 t7))] [] (soft_ToInt.R t8) [] ∧ True) ∧ ((t4 != t5) = false ∧ ((t4 != t5) = false ∧ (True) ∧ ((t4 != t5) = false ∧ (((t8 != a2) = false → ((t8 != a2) = false ∧ ((t8 != a2) = false ∧ (∃ t10 : Int, (Fun cfg 32 [.one (.sc (.int .u64 a0)), .one (.sc (.int .u64 a1))] [] (soft_Order.R t10) [] ∧ True) ∧ ((t8 != a2) = false ∧ ((t8 != a2) = false ∧ ((t8 != a2) = false ∧ (∃ t11 : Int, (Fun cfg 32 [.one (.sc (.int .u64 a1)), .one (.sc (.int .u64 a0))] [] (soft_Order.R t11) [] ∧ True) ∧ ((t8 != a2) = false ∧ ((t8 != a2) = false ∧ (True) ∧ ((t8 != a2) = false ∧ (((t10 != (IntKind.wrap .i64 (0 - t11))) = true → (True ∧ (True ∧ ((True) ∧ (True) ∧ (.v (.one (.sc (.bool false))) : Tm) = halterlaw02_SoftLaws.R r ∧ ([] : List Box) = [])))) ∧ ((t10 != (IntKind.wrap .i64 (0 - t11))) = false → (∃ t13 : Int, (Fun cfg 20 [.one (.sc (.int .u64 a0))] [] (soft_Class.R t13) [] ∧ True) ∧ (((True) ∧ True) ∧ ((∃ t69 : Unit, Trip cfg (cpath (Try.f8.body.getD .skip) [1, 1, 0, 1]) ⟨[.v (.one (.sc (.int .u64 a0))), .v (.one (.sc (.int .u64 a1))), .any, .any, .any, .any, .any, .any, .any, .any, .any, .any, .any, .any, .any, .any, .any, .any, .any, .any, .any, .any, .any, .any, .any, .any, .any, .any, .any, .any, .any, .any, .any, .any, .any, .any, .any, .any, .any, .any, .any, .any, .any, .v (.one (.sc (.int .i64 t13))), .any, .any, .any, .any, .any, .any, .any, .any, .any, .any, .any, .any, .any, .any, .any, .any, .any, .any, .any, .any, .any, .any, .any, .any, .any, .any, .any, .any, .any, .any, .any, .any, .any, .any, .any, .any, .any, .any, .any, .any, .any, .any, .any, .any, .any, .any, .any, .any, .any, .any, .any, .any, .any, .any, .any, .any, .any, .any, .any, .any, .any, .any, .any, .any, .any, .any, .any, .any, .any, .any, .any, .any, .any, .any, .any, .any, .any, .any, .any, .any, .any, .any, .any, .any, .any, .any, .any, .any, .any, .any, .any, .any, .any, .any, .any, .any, .any, .any, .any, .any, .any, .any, .any, .any, .any, .any, .any, .any, .any], [], 0⟩ (fun e s => e = .normal ∧ s = ⟨[.v (.one (.sc (.int .u64 a0))), .v (.one (.sc (.int .u64 a1))), .any, .any, .any, .any, .any, .any, .any, .any, .any, .any, .any, .any, .any, .any, .any, .any, .any, .any, .any, .any, .any, .any, .any, .any, .any, .any, .any, .any, .any, .any, .any, .any, .any, .any, .any, .any, .any, .any, .any, .any, .any, .any, .any, .any, .any, .any, .any, .any, .any, .any, .any, .any, .any, .any, .any, .any, .any, .any, .any, .any, .any, .any, .any, .any, .any, .any, .any, .any, .any, .any, .any, .any, .any, .any, .any, .any, .any, .any, .any, .any, .any, .any, .any, .any, .any, .any, .any, .any, .any, .any, .any, .any, .any, .any, .any, .any, .any, .any, .any, .any, .any, .any, .any, .any, .any, .any, .any, .any, .any, .any, .any, .any, .any, .any, .any, .any, .any, .any, .any, .any, .any, .any, .any, .any, .any, .any, .any, .any, .any, .any, .any, .any, .any, .any, .any, .any, .any, .any, .any, .any, .any, .any, .any, .any, .any, .any, .any, .any, .any, .any, .any], [], 0⟩) ∧ (∃ t70 : Int, (Fun cfg 20 [.one (.sc (.int .u64 a0))] [] (soft_Class.R t70) [] ∧ True) ∧ (True) ∧ (((t70 != (4 : Int)) = true → ((t70 != (4 : Int)) = true ∧ (∃ t72 : Int, (Fun cfg 20 [.one (.sc (.int .u64 a1))] [] (soft_Class.R t72) [] ∧ True) ∧ ((t70 != (4 : Int)) = true ∧ (True) ∧ ((t70 != (4 : Int)) = true ∧ (((t72 != (4 : Int)) = true → (∃ t74 : Int, (Fun cfg 28 [.one (.sc (.int .u64 a0)), .one (.sc (.int .u64 a1))] [] (soft_Min.R t74) [] ∧ True) ∧ (∃ t75 : Int, (Fun cfg 30 [.one (.sc (.int .u64 a0)), .one (.sc (.int .u64 a1))] [] (soft_Max.R t75) [] ∧ True) ∧ (∃ t76 : Int, (Fun cfg 32 [.one (.sc (.int .u64 t74)), .one (.sc (.int .u64 t75))] [] (soft_Order.R t76) [] ∧ True) ∧ (True) ∧ (((decide (t76 > (0 : Int))) = false → ((decide (t76 > (0 : Int))) = false ∧ ((decide (t76 > (0 : Int))) = false ∧ (True) ∧ ((decide (t76 > (0 : Int))) = false ∧ (((t74 != a0) = true → ((t74 != a0) = true ∧ ((t74 != a0) = true ∧ (True) ∧ ((decide (t76 > (0 : Int))) = false ∧ ((t74 != a0) = true ∧ ((decide (t76 > (0 : Int))) = false ∧ (((t74 != a1) = false → ((t74 != a1) = false ∧ ((t74 != a1) = false ∧ (True) ∧ ((t74 != a1) = false ∧ (((t75 != a0) = true → ((t75 != a0) = true ∧ ((t75 != a0) = true ∧ (True) ∧ ((t74 != a1) = false ∧ ((t75 != a0) = true ∧ ((t74 != a1) = false ∧ (((t75 != a1) = true → (True ∧ (True ∧ ((True) ∧ (True) ∧ (.v (.one (.sc (.bool false))) : Tm) = halterlaw02_SoftLaws.R r ∧ ([] : List Box) = [])))) ∧ ((t75 != a1) = false → (∃ t82 : Bool, (Fun cfg 15 [] [] (halterlaw02_sure.R t82) [] ∧ True) ∧ (True ∧ ((True) ∧ (True) ∧ (.v (.one (.sc (.bool t82))) : Tm) = halterlaw02_SoftLaws.R r ∧ ([] : List Box) = []))))))))))) ∧ ((t75 != a0) = false → ((t75 != a0) = false ∧ ((t75 != a0) = false ∧ ((t74 != a1) = false ∧ ((t75 != a0) = false ∧ ((t74 != a1) = false ∧ (false = false ∧ (∃ t83 : Bool, (Fun cfg 15 [] [] (halterlaw02_sure.R t83) [] ∧ True) ∧ (True ∧ ((True) ∧ (True) ∧ (.v (.one (.sc (.bool t83))) : Tm) = halterlaw02_SoftLaws.R r ∧ ([] : List Box) = []))))))))))))))) ∧ ((t74 != a1) = true → ((t74 != a1) = true ∧ ((t74 != a1) = true ∧ ((t74 != a1) = true ∧ ((t74 != a1) = true ∧ ((t74 != a1) = true ∧ (true = true ∧ (True ∧ (True ∧ ((True) ∧ (True) ∧ (.v (.one (.sc (.bool false))) : Tm) = halterlaw02_SoftLaws.R r ∧ ([] : List Box) = []))))))))))))))))) ∧ ((t74 != a0) = false → ((t74 != a0) = false ∧ ((t74 != a0) = false ∧ ((decide (t76 > (0 : Int))) = false ∧ ((t74 != a0) = false ∧ ((decide (t76 > (0 : Int))) = false ∧ (false = false ∧ (false = false ∧ (false = false ∧ (True) ∧ (false = false ∧ (((t75 != a0) = true → ((t75 != a0) = true ∧ ((t75 != a0) = true ∧ (True) ∧ (false = false ∧ ((t75 != a0) = true ∧ (false = false ∧ (((t75 != a1) = true → (True ∧ (True ∧ ((True) ∧ (True) ∧ (.v (.one (.sc (.bool false))) : Tm) = halterlaw02_SoftLaws.R r ∧ ([] : List Box) = [])))) ∧ ((t75 != a1) = false → (∃ t86 : Bool, (Fun cfg 15 [] [] (halterlaw02_sure.R t86) [] ∧ True) ∧ (True ∧ ((True) ∧ (True) ∧ (.v (.one (.sc (.bool t86))) : Tm) = halterlaw02_SoftLaws.R r ∧ ([] : List Box) = []))))))))))) ∧ ((t75 != a0) = false → ((t75 != a0) = false ∧ ((t75 != a0) = false ∧ (false = false ∧ ((t75 != a0) = false ∧ (false = false ∧ (false = false ∧ (∃ t87 : Bool, (Fun cfg 15 [] [] (halterlaw02_sure.R t87) [] ∧ True) ∧ (True ∧ ((True) ∧ (True) ∧ (.v (.one (.sc (.bool t87))) : Tm) = halterlaw02_SoftLaws.R r ∧ ([] : List Box) = [])))))))))))))))))))))))))) ∧ ((decide (t76 > (0 : Int))) = true → ((decide (t76 > (0 : Int))) = true ∧ ((decide (t76 > (0 : Int))) = true ∧ ((decide (t76 > (0 : Int))) = true ∧ ((decide (t76 > (0 : Int))) = true ∧ ((decide (t76 > (0 : Int))) = true ∧ (true = true ∧ (true = true ∧ (true = true ∧ (true = true ∧ (true = true ∧ (true = true ∧ (true = true ∧ (True ∧ (True ∧ ((True) ∧ (True) ∧ (.v (.one (.sc (.bool false))) : Tm) = halterlaw02_SoftLaws.R r ∧ ([] : List Box) = []))))))))))))))))))))) ∧ ((t72 != (4 : Int)) = false → (∃ t88 : Bool, (Fun cfg 15 [] [] (halterlaw02_sure.R t88) [] ∧ True) ∧ (True ∧ ((True) ∧ (True) ∧ (.v (.one (.sc (.bool t88))) : Tm) = halterlaw02_SoftLaws.R r ∧ ([] : List Box) = [])))))))))) ∧ ((t70 != (4 : Int)) = false → ((t70 != (4 : Int)) = false ∧ ((t70 != (4 : Int)) = false ∧ ((t70 != (4 : Int)) = false ∧ (false = false ∧ (∃ t89 : Bool, (Fun cfg 15 [] [] (halterlaw02_sure.R t89) [] ∧ True) ∧ (True ∧ ((True) ∧ (True) ∧ (.v (.one (.sc (.bool t89))) : Tm) = halterlaw02_SoftLaws.R r ∧ ([] : List Box) = []))))))))))) ∨ (∃ t90 : Unit, Trip cfg (cpath (Try.f8.body.getD .skip) [1, 1, 0, 1]) ⟨[.v (.one (.sc (.int .u64 a0))), .v (.one (.sc (.int .u64 a1))), .any, .any, .any, .any, .any, .any, .any, .any, .any, .any, .any, .any, .any, .any, .any, .any, .any, .any, .any, .any, .any, .any, .any, .any, .any, .any, .any, .any, .any, .any, .any, .any, .any, .any, .any, .any, .any, .any, .any, .any, .any, .v (.one (.sc (.int .i64 t13))), .any, .any, .any, .any, .any, .any, .any, .any, .any, .any, .any, .any, .any, .any, .any, .any, .any, .any, .any, .any, .any, .any, .any, .any, .any, .any, .any, .any, .any, .any, .any, .any, .any, .any, .any, .any, .any, .any, .any, .any, .any, .any, .any, .any, .any, .any, .any, .any, .any, .any, .any, .any, .any, .any, .any, .any, .any, .any, .any, .any, .any, .any, .any, .any, .any, .any, .any, .any, .any, .any, .any, .any, .any, .any, .any, .any, .any, .any, .any, .any, .any, .any, .any, .any, .any, .any, .any, .any, .any, .any, .any, .any, .any, .any, .any, .any, .any, .any, .any, .any, .any, .any, .any, .any, .any, .any, .any, .any, .any], [], 0⟩ (fun e s => e = .ret ∧ s = ⟨[.any, .any, .any, .any, .any, .any, .v (.one (.sc (.bool false))), .any, .any, .any, .any, .any, .any, .any, .any, .any, .any, .any, .any, .any, .any, .any, .any, .any, .any, .any, .any, .any, .any, .any, .any, .any, .any, .any, .any, .any, .any, .any, .any, .any, .any, .any, .any, .any, .any, .any, .any, .any, .any, .any, .any, .any, .any, .any, .any, .any, .any, .any, .any, .any, .any, .any, .any, .any, .any, .any, .any, .any, .any, .any, .any, .any, .any, .any, .any, .any, .any, .any, .any, .any, .any, .any, .any, .any, .any, .any, .any, .any, .any, .any, .any, .any, .any, .any, .any, .any, .any, .any, .any, .any, .any, .any, .any, .any, .any, .any, .any, .any, .any, .any, .any, .any, .any, .any, .any, .any, .any, .any, .any, .any, .any, .any, .any, .any, .any, .any, .any, .any, .any, .any, .any, .any, .any, .any, .any, .any, .any, .any, .any, .any, .any, .any, .any, .any, .any, .any, .any, .any, .any, .any, .any, .any, .any], [], 0⟩) ∧ ((True) ∧ (True) ∧ (.v (.one (.sc (.bool false))) : Tm) = halterlaw02_SoftLaws.R r ∧ ([] : List Box) = [])))))))))))))))))) ∧ ((t8 != a2) = true → ((t8 != a2) = true ∧ ((t8 != a2) = true ∧ ((t8 != a2) = true ∧ ((t8 != a2) = true ∧ ((t8 != a2) = true ∧ ((t8 != a2) = true ∧ ((t8 != a2) = true ∧ ((t8 != a2) = true ∧ (true = true ∧ (True ∧ (True ∧ ((True) ∧ (True) ∧ (.v (.one (.sc (.bool false))) : Tm) = halterlaw02_SoftLaws.R r ∧ ([] : List Box) = [])))))))))))))))))))))) ∧ ((t4 != t5) = true → ((t4 != t5) = true ∧ ((t4 != t5) = true ∧ ((t4 != t5) = true ∧ ((t4 != t5) = true ∧ ((t4 != t5) = true ∧ (true = true ∧ (true = true ∧ (true = true ∧ (true = true ∧ (true = true ∧ (true = true ∧ (true = true ∧ (true = true ∧ (true = true ∧ (true = true ∧ (True ∧ (True ∧ ((True) ∧ (True) ∧ (.v (.one (.sc (.bool false))) : Tm) = halterlaw02_SoftLaws.R r ∧ ([] : List Box) = [])))))))))))))))))))))))))))))) ∧ ((t1 != t2) = true → ((t1 != t2) = true ∧ ((t1 != t2) = true ∧ ((t1 != t2) = true ∧ ((t1 != t2) = true ∧ ((t1 != t2) = true ∧ ((t1 != t2) = true ∧ ((t1 != t2) = true ∧ (true = true ∧ (true = true ∧ (true = true ∧ (true = true ∧ (true = true ∧ (true = true ∧ (true = true ∧ (true = true ∧ (true = true ∧ (true = true ∧ (true = true ∧ (true = true ∧ (true = true ∧ (true = true ∧ (true = true ∧ (true = true ∧ (True ∧ (True ∧ ((True) ∧ (True) ∧ (.v (.one (.sc (.bool false))) : Tm) = halterlaw02_SoftLaws.R r ∧ ([] : List Box) = []))))))))))))))))))))))))))))))) (by kernel_rfl) ?_)
  obtain ⟨t1, ht1, h⟩ := of_bind h
  refine ⟨t1, ⟨soft_Add.fun_ ht1, trivial⟩, ?_⟩
  obtain ⟨t2, ht2, h⟩ := of_bind h
  refine ⟨t2, ⟨soft_Add.fun_ ht2, trivial⟩, ?_⟩
  refine ⟨trivial, ?_⟩
  refine ⟨fun b3 => ?_, fun b3 => ?_⟩
  · rw [if_neg (not_not_intro (bne_f b3))] at h
    refine ⟨b3, ?_⟩
    refine ⟨b3, ?_⟩
    obtain ⟨t4, ht4, h⟩ := of_bind h
    refine ⟨t4, ⟨soft_Mul.fun_ ht4, trivial⟩, ?_⟩
    refine ⟨b3, ?_⟩
    refine ⟨b3, ?_⟩
    refine ⟨b3, ?_⟩
    obtain ⟨t5, ht5, h⟩ := of_bind h
    refine ⟨t5, ⟨soft_Mul.fun_ ht5, trivial⟩, ?_⟩
    refine ⟨b3, ?_⟩
    refine ⟨trivial, ?_⟩
    refine ⟨b3, ?_⟩
    refine ⟨fun b6 => ?_, fun b6 => ?_⟩
    · rw [if_neg (not_not_intro (bne_f b6))] at h
      refine ⟨b6, ?_⟩
      obtain ⟨t7, ht7, h⟩ := of_bind h
      refine ⟨t7, ⟨soft_FromInt.fun_ ht7, trivial⟩, ?_⟩
      refine ⟨b6, ?_⟩
      obtain ⟨t8, ht8, h⟩ := of_bind h
      refine ⟨t8, ⟨soft_ToInt.fun_ ht8, trivial⟩, ?_⟩
      refine ⟨b6, ?_⟩
      refine ⟨b6, ?_⟩
      refine ⟨trivial, ?_⟩
      refine ⟨b6, ?_⟩
      refine ⟨fun b9 => ?_, fun b9 => ?_⟩
      · rw [if_neg (not_not_intro (bne_f b9))] at h
        refine ⟨b9, ?_⟩
        refine ⟨b9, ?_⟩
        obtain ⟨t10, ht10, h⟩ := of_bind h
        refine ⟨t10, ⟨soft_Order.fun_ ht10, trivial⟩, ?_⟩
        refine ⟨b9, ?_⟩
        refine ⟨b9, ?_⟩
        refine ⟨b9, ?_⟩
        obtain ⟨t11, ht11, h⟩ := of_bind h
        refine ⟨t11, ⟨soft_Order.fun_ ht11, trivial⟩, ?_⟩
        refine ⟨b9, ?_⟩
        refine ⟨b9, ?_⟩
        refine ⟨trivial, ?_⟩
        refine ⟨b9, ?_⟩
        refine ⟨fun b12 => ?_, fun b12 => ?_⟩
        · rw [if_pos (bne_t b12)] at h
          refine ⟨trivial, ?_⟩
          refine ⟨trivial, ?_⟩
          obtain rfl := Option.some.inj h
          exact ⟨trivial, trivial, rfl, rfl⟩
        · rw [if_neg (not_not_intro (bne_f b12))] at h
          obtain ⟨t13, ht13, h⟩ := of_bind h
          refine ⟨t13, ⟨soft_Class.fun_ ht13, trivial⟩, ?_⟩
          obtain ⟨t41, ht41, h⟩ := of_bind h
          refine ⟨⟨trivial, trivial⟩, ?_⟩
          rcases t41 with t69 | t90
          · dsimp only at h
            left
            refine ⟨t69, halterlaw02_SoftLaws.j0_ok t13 a0 a1 (.inl t69) ht41, ?_⟩
            obtain ⟨t70, ht70, h⟩ := of_bind h
            refine ⟨t70, ⟨soft_Class.fun_ ht70, trivial⟩, ?_⟩
            refine ⟨trivial, ?_⟩
            refine ⟨fun b71 => ?_, fun b71 => ?_⟩
            · rw [if_pos (bne_t b71)] at h
              refine ⟨b71, ?_⟩
              obtain ⟨t72, ht72, h⟩ := of_bind h
              refine ⟨t72, ⟨soft_Class.fun_ ht72, trivial⟩, ?_⟩
              refine ⟨b71, ?_⟩
              refine ⟨trivial, ?_⟩
              refine ⟨b71, ?_⟩
              refine ⟨fun b73 => ?_, fun b73 => ?_⟩
              · rw [if_pos (bne_t b73)] at h
                obtain ⟨t74, ht74, h⟩ := of_bind h
                refine ⟨t74, ⟨soft_Min.fun_ ht74, trivial⟩, ?_⟩
                obtain ⟨t75, ht75, h⟩ := of_bind h
                refine ⟨t75, ⟨soft_Max.fun_ ht75, trivial⟩, ?_⟩
                obtain ⟨t76, ht76, h⟩ := of_bind h
                refine ⟨t76, ⟨soft_Order.fun_ ht76, trivial⟩, ?_⟩
                refine ⟨trivial, ?_⟩
                refine ⟨fun b77 => ?_, fun b77 => ?_⟩
                · rw [if_neg (of_decide_eq_false b77)] at h
                  refine ⟨b77, ?_⟩
                  refine ⟨b77, ?_⟩
                  refine ⟨trivial, ?_⟩
                  refine ⟨b77, ?_⟩
                  refine ⟨fun b78 => ?_, fun b78 => ?_⟩
                  · rw [if_pos (bne_t b78)] at h
                    refine ⟨b78, ?_⟩
                    refine ⟨b78, ?_⟩
                    refine ⟨trivial, ?_⟩
                    refine ⟨b77, ?_⟩
                    refine ⟨b78, ?_⟩
                    refine ⟨b77, ?_⟩
                    refine ⟨fun b79 => ?_, fun b79 => ?_⟩
                    · rw [if_neg (not_not_intro (bne_f b79))] at h
                      refine ⟨b79, ?_⟩
                      refine ⟨b79, ?_⟩
                      refine ⟨trivial, ?_⟩
                      refine ⟨b79, ?_⟩
                      refine ⟨fun b80 => ?_, fun b80 => ?_⟩
                      · rw [if_pos (bne_t b80)] at h
                        refine ⟨b80, ?_⟩
                        refine ⟨b80, ?_⟩
                        refine ⟨trivial, ?_⟩
                        refine ⟨b79, ?_⟩
                        refine ⟨b80, ?_⟩
                        refine ⟨b79, ?_⟩
                        refine ⟨fun b81 => ?_, fun b81 => ?_⟩
                        · rw [if_pos (bne_t b81)] at h
                          refine ⟨trivial, ?_⟩
                          refine ⟨trivial, ?_⟩
                          obtain rfl := Option.some.inj h
                          exact ⟨trivial, trivial, rfl, rfl⟩
                        · rw [if_neg (not_not_intro (bne_f b81))] at h
                          obtain ⟨t82, ht82, h⟩ := of_bind h
                          refine ⟨t82, ⟨halterlaw02_sure.fun_ ht82, trivial⟩, ?_⟩
                          refine ⟨trivial, ?_⟩
                          obtain rfl := Option.some.inj h
                          exact ⟨trivial, trivial, rfl, rfl⟩
                      · rw [if_neg (not_not_intro (bne_f b80))] at h
                        refine ⟨b80, ?_⟩
                        refine ⟨b80, ?_⟩
                        refine ⟨b79, ?_⟩
                        refine ⟨b80, ?_⟩
                        refine ⟨b79, ?_⟩
                        refine ⟨rfl, ?_⟩
                        obtain ⟨t83, ht83, h⟩ := of_bind h
                        refine ⟨t83, ⟨halterlaw02_sure.fun_ ht83, trivial⟩, ?_⟩
                        refine ⟨trivial, ?_⟩
                        obtain rfl := Option.some.inj h
                        exact ⟨trivial, trivial, rfl, rfl⟩
                    · rw [if_pos (bne_t b79)] at h
                      refine ⟨b79, ?_⟩
                      refine ⟨b79, ?_⟩
                      refine ⟨b79, ?_⟩
                      refine ⟨b79, ?_⟩
                      refine ⟨b79, ?_⟩
                      refine ⟨rfl, ?_⟩
                      refine ⟨trivial, ?_⟩
                      refine ⟨trivial, ?_⟩
                      obtain rfl := Option.some.inj h
                      exact ⟨trivial, trivial, rfl, rfl⟩
                  · rw [if_neg (not_not_intro (bne_f b78))] at h
                    refine ⟨b78, ?_⟩
                    refine ⟨b78, ?_⟩
                    refine ⟨b77, ?_⟩
                    refine ⟨b78, ?_⟩
                    refine ⟨b77, ?_⟩
                    refine ⟨rfl, ?_⟩
                    refine ⟨rfl, ?_⟩
                    refine ⟨rfl, ?_⟩
                    refine ⟨trivial, ?_⟩
                    refine ⟨rfl, ?_⟩
                    refine ⟨fun b84 => ?_, fun b84 => ?_⟩
                    · rw [if_pos (bne_t b84)] at h
                      refine ⟨b84, ?_⟩
                      refine ⟨b84, ?_⟩
                      refine ⟨trivial, ?_⟩
                      refine ⟨rfl, ?_⟩
                      refine ⟨b84, ?_⟩
                      refine ⟨rfl, ?_⟩
                      refine ⟨fun b85 => ?_, fun b85 => ?_⟩
                      · rw [if_pos (bne_t b85)] at h
                        refine ⟨trivial, ?_⟩
                        refine ⟨trivial, ?_⟩
                        obtain rfl := Option.some.inj h
                        exact ⟨trivial, trivial, rfl, rfl⟩
                      · rw [if_neg (not_not_intro (bne_f b85))] at h
                        obtain ⟨t86, ht86, h⟩ := of_bind h
                        refine ⟨t86, ⟨halterlaw02_sure.fun_ ht86, trivial⟩, ?_⟩
                        refine ⟨trivial, ?_⟩
                        obtain rfl := Option.some.inj h
                        exact ⟨trivial, trivial, rfl, rfl⟩
                    · rw [if_neg (not_not_intro (bne_f b84))] at h
                      refine ⟨b84, ?_⟩
                      refine ⟨b84, ?_⟩
                      refine ⟨rfl, ?_⟩
                      refine ⟨b84, ?_⟩
                      refine ⟨rfl, ?_⟩
                      refine ⟨rfl, ?_⟩
                      obtain ⟨t87, ht87, h⟩ := of_bind h
                      refine ⟨t87, ⟨halterlaw02_sure.fun_ ht87, trivial⟩, ?_⟩
                      refine ⟨trivial, ?_⟩
                      obtain rfl := Option.some.inj h
                      exact ⟨trivial, trivial, rfl, rfl⟩
                · rw [if_pos (of_decide_eq_true b77)] at h
                  refine ⟨b77, ?_⟩
                  refine ⟨b77, ?_⟩
                  refine ⟨b77, ?_⟩
                  refine ⟨b77, ?_⟩
                  refine ⟨b77, ?_⟩
                  refine ⟨rfl, ?_⟩
                  refine ⟨rfl, ?_⟩
                  refine ⟨rfl, ?_⟩
                  refine ⟨rfl, ?_⟩
                  refine ⟨rfl, ?_⟩
                  refine ⟨rfl, ?_⟩
                  refine ⟨rfl, ?_⟩
                  refine ⟨trivial, ?_⟩
                  refine ⟨trivial, ?_⟩
                  obtain rfl := Option.some.inj h
                  exact ⟨trivial, trivial, rfl, rfl⟩
              · rw [if_neg (not_not_intro (bne_f b73))] at h
                obtain ⟨t88, ht88, h⟩ := of_bind h
                refine ⟨t88, ⟨halterlaw02_sure.fun_ ht88, trivial⟩, ?_⟩
                refine ⟨trivial, ?_⟩
                obtain rfl := Option.some.inj h
                exact ⟨trivial, trivial, rfl, rfl⟩
            · rw [if_neg (not_not_intro (bne_f b71))] at h
              refine ⟨b71, ?_⟩
              refine ⟨b71, ?_⟩
              refine ⟨b71, ?_⟩
              refine ⟨rfl, ?_⟩
              obtain ⟨t89, ht89, h⟩ := of_bind h
              refine ⟨t89, ⟨halterlaw02_sure.fun_ ht89, trivial⟩, ?_⟩
              refine ⟨trivial, ?_⟩
              obtain rfl := Option.some.inj h
              exact ⟨trivial, trivial, rfl, rfl⟩
          · dsimp only at h
            right
            refine ⟨t90, halterlaw02_SoftLaws.j0_ok t13 a0 a1 (.inr t90) ht41, ?_⟩
            obtain rfl := Option.some.inj h
            exact ⟨trivial, trivial, rfl, rfl⟩
      · rw [if_pos (bne_t b9)] at h
        refine ⟨b9, ?_⟩
        refine ⟨b9, ?_⟩
        refine ⟨b9, ?_⟩
        refine ⟨b9, ?_⟩
        refine ⟨b9, ?_⟩
        refine ⟨b9, ?_⟩
        refine ⟨b9, ?_⟩
        refine ⟨b9, ?_⟩
        refine ⟨rfl, ?_⟩
        refine ⟨trivial, ?_⟩
        refine ⟨trivial, ?_⟩
        obtain rfl := Option.some.inj h
        exact ⟨trivial, trivial, rfl, rfl⟩
    · rw [if_pos (bne_t b6)] at h
      refine ⟨b6, ?_⟩
      refine ⟨b6, ?_⟩
      refine ⟨b6, ?_⟩
      refine ⟨b6, ?_⟩
      refine ⟨b6, ?_⟩
      refine ⟨rfl, ?_⟩
      refine ⟨rfl, ?_⟩
      refine ⟨rfl, ?_⟩
      refine ⟨rfl, ?_⟩
      refine ⟨rfl, ?_⟩
      refine ⟨rfl, ?_⟩
      refine ⟨rfl, ?_⟩
      refine ⟨rfl, ?_⟩
      refine ⟨rfl, ?_⟩
      refine ⟨rfl, ?_⟩
      refine ⟨trivial, ?_⟩
      refine ⟨trivial, ?_⟩
      obtain rfl := Option.some.inj h
      exact ⟨trivial, trivial, rfl, rfl⟩
  · rw [if_pos (bne_t b3)] at h
    refine ⟨b3, ?_⟩
    refine ⟨b3, ?_⟩
    refine ⟨b3, ?_⟩
    refine ⟨b3, ?_⟩
    refine ⟨b3, ?_⟩
    refine ⟨b3, ?_⟩
    refine ⟨b3, ?_⟩
    refine ⟨rfl, ?_⟩
    refine ⟨rfl, ?_⟩
    refine ⟨rfl, ?_⟩
    refine ⟨rfl, ?_⟩
    refine ⟨rfl, ?_⟩
    refine ⟨rfl, ?_⟩
    refine ⟨rfl, ?_⟩
    refine ⟨rfl, ?_⟩
    refine ⟨rfl, ?_⟩
    refine ⟨rfl, ?_⟩
    refine ⟨rfl, ?_⟩
    refine ⟨rfl, ?_⟩
    refine ⟨rfl, ?_⟩
    refine ⟨rfl, ?_⟩
    refine ⟨rfl, ?_⟩
    refine ⟨rfl, ?_⟩
    refine ⟨trivial, ?_⟩
    refine ⟨trivial, ?_⟩
    obtain rfl := Option.some.inj h
    exact ⟨trivial, trivial, rfl, rfl⟩
end Go.Proofs.YtkaehhfdjenmcaaGSoftLaws
