/- Printed by gen.py: what functions of the program compute, in plain Lean, and that they do. -/
import Derived.Test.YtkaehhfdjenmcaaE15
import Derived.Test.YtkaehhfdjenmcaaProg
import Derived.Test.YtkaehhfdjenmcaaF
set_option linter.unusedVariables false
set_option maxRecDepth 100000
set_option maxHeartbeats 4000000
namespace Go.Proofs.YtkaehhfdjenmcaaGSoftInts
open Go Go.Proofs.YtkaehhfdjenmcaaE
def tiL : List (Nat × TI) := [
  (2, ⟨1, 8, false, .int .i64, [.c (.sc (.int .i64 (0 : Int)))], some (.int .i64)⟩),
  (3, ⟨1, 8, false, .int .i64, [.c (.sc (.int .i64 (0 : Int)))], some (.int .i64)⟩),
  (4, ⟨1, 1, false, .bool, [.c (.sc (.bool false))], some .bool⟩),
  (22, ⟨1, 8, false, .int .u64, [.c (.sc (.int .u64 (0 : Int)))], some (.int .u64)⟩),
  (28, ⟨1, 4, false, .int .u32, [.c (.sc (.int .u32 (0 : Int)))], some (.int .u32)⟩)]
def tabs : List (Nat × IntKind × List Int) := []
noncomputable def cfg : Cfg := ⟨Try.prog, 0, [] ++ tabs.flatMap tabG, tiL, [], tabs⟩
theorem cfg_ok : COk cfg := by
  refine ⟨fun p hp => ?_, by kernel_rfl, fun p hp => ?_, fun t ht => ?_, fun x hx y hy => List.mem_append_right _ (List.mem_flatMap.2 ⟨x, hx, hy⟩)⟩
  · simp only [cfg, tiL, List.mem_cons, List.not_mem_nil, or_false] at hp
    rcases hp with rfl | rfl | rfl | rfl | rfl <;> exact ⟨by kernel_rfl, by kernel_rfl, by kernel_rfl, by kernel_rfl, by kernel_rfl, by kernel_rfl⟩
  · simp only [cfg, tiL, List.mem_cons, List.not_mem_nil, or_false] at hp
    rcases hp with rfl | rfl | rfl | rfl | rfl <;> intro fs hfs bl hbl
    · cases hfs
    · cases hfs
    · cases hfs
    · cases hfs
    · cases hfs
  · cases ht
def fin : Scr → List Adj
  | .adj l _ => l
  | _ => []
/-! halter/soft.Add, by hand -/
def soft_Add.f (a0 : Int) (a1 : Int) : Option Int := YtkaehhfdjenmcaaF.soft_Add.f a0 a1
def soft_Add.R (r : Int) : Tm := .v (.one (.sc (.int .u64 r)))
theorem soft_Add.fun_ {a0 a1 r : Int} (h : soft_Add.f a0 a1 = some r) : Fun cfg 16 [.one (.sc (.int .u64 a0)), .one (.sc (.int .u64 a1))] [] (soft_Add.R r) [] := by
  refine Fun.of_below (f := 16) (fn := Try.f16) Try.func16 rfl (by kernel_rfl) (r := .int .u64 r) (fun X => ⟨⟨rfl, rfl⟩, rfl⟩) fun X vs hE hvs hG => ?_
  obtain ⟨v0, us0, rfl, hv0, v1, us1, rfl, hv1, rfl⟩ := hvs
  have hv0 : v0 = .int .u64 a0 := hv0.1.1
  have hv1 : v1 = .int .u64 a1 := hv1.1.1
  rw [hv0, hv1]
  exact YtkaehhfdjenmcaaF.soft_Add.calls a0 a1 r X.w h
/-! halter/soft.Sub, by hand -/
def soft_Sub.f (a0 : Int) (a1 : Int) : Option Int := YtkaehhfdjenmcaaF.soft_Sub.f a0 a1
def soft_Sub.R (r : Int) : Tm := .v (.one (.sc (.int .u64 r)))
theorem soft_Sub.fun_ {a0 a1 r : Int} (h : soft_Sub.f a0 a1 = some r) : Fun cfg 18 [.one (.sc (.int .u64 a0)), .one (.sc (.int .u64 a1))] [] (soft_Sub.R r) [] := by
  refine Fun.of_below (f := 18) (fn := Try.f18) Try.func18 rfl (by kernel_rfl) (r := .int .u64 r) (fun X => ⟨⟨rfl, rfl⟩, rfl⟩) fun X vs hE hvs hG => ?_
  obtain ⟨v0, us0, rfl, hv0, v1, us1, rfl, hv1, rfl⟩ := hvs
  have hv0 : v0 = .int .u64 a0 := hv0.1.1
  have hv1 : v1 = .int .u64 a1 := hv1.1.1
  rw [hv0, hv1]
  exact YtkaehhfdjenmcaaF.soft_Sub.calls a0 a1 r X.w h
/-! halter/soft.Mul, by hand -/
def soft_Mul.f (a0 : Int) (a1 : Int) : Option Int := YtkaehhfdjenmcaaF.soft_Mul.f a0 a1
def soft_Mul.R (r : Int) : Tm := .v (.one (.sc (.int .u64 r)))
theorem soft_Mul.fun_ {a0 a1 r : Int} (h : soft_Mul.f a0 a1 = some r) : Fun cfg 9 [.one (.sc (.int .u64 a0)), .one (.sc (.int .u64 a1))] [] (soft_Mul.R r) [] := by
  refine Fun.of_below (f := 9) (fn := Try.f9) Try.func9 rfl (by kernel_rfl) (r := .int .u64 r) (fun X => ⟨⟨rfl, rfl⟩, rfl⟩) fun X vs hE hvs hG => ?_
  obtain ⟨v0, us0, rfl, hv0, v1, us1, rfl, hv1, rfl⟩ := hvs
  have hv0 : v0 = .int .u64 a0 := hv0.1.1
  have hv1 : v1 = .int .u64 a1 := hv1.1.1
  rw [hv0, hv1]
  exact YtkaehhfdjenmcaaF.soft_Mul.calls a0 a1 r X.w h
/-! halter/soft.Div, by hand -/
def soft_Div.f (a0 : Int) (a1 : Int) : Option Int := YtkaehhfdjenmcaaF.soft_Div.f a0 a1
def soft_Div.R (r : Int) : Tm := .v (.one (.sc (.int .u64 r)))
theorem soft_Div.fun_ {a0 a1 r : Int} (h : soft_Div.f a0 a1 = some r) : Fun cfg 11 [.one (.sc (.int .u64 a0)), .one (.sc (.int .u64 a1))] [] (soft_Div.R r) [] := by
  refine Fun.of_below (f := 11) (fn := Try.f11) Try.func11 rfl (by kernel_rfl) (r := .int .u64 r) (fun X => ⟨⟨rfl, rfl⟩, rfl⟩) fun X vs hE hvs hG => ?_
  obtain ⟨v0, us0, rfl, hv0, v1, us1, rfl, hv1, rfl⟩ := hvs
  have hv0 : v0 = .int .u64 a0 := hv0.1.1
  have hv1 : v1 = .int .u64 a1 := hv1.1.1
  rw [hv0, hv1]
  exact YtkaehhfdjenmcaaF.soft_Div.calls a0 a1 r X.w h
/-! halter/soft.Cmp, by hand -/
def soft_Cmp.f (a0 : Int) (a1 : Int) : Option Int := YtkaehhfdjenmcaaF.soft_Cmp.f a0 a1
def soft_Cmp.R (r : Int) : Tm := .v (.one (.sc (.int .i64 r)))
theorem soft_Cmp.fun_ {a0 a1 r : Int} (h : soft_Cmp.f a0 a1 = some r) : Fun cfg 24 [.one (.sc (.int .u64 a0)), .one (.sc (.int .u64 a1))] [] (soft_Cmp.R r) [] := by
  refine Fun.of_below (f := 24) (fn := Try.f24) Try.func24 rfl (by kernel_rfl) (r := .int .i64 r) (fun X => ⟨⟨rfl, rfl⟩, rfl⟩) fun X vs hE hvs hG => ?_
  obtain ⟨v0, us0, rfl, hv0, v1, us1, rfl, hv1, rfl⟩ := hvs
  have hv0 : v0 = .int .u64 a0 := hv0.1.1
  have hv1 : v1 = .int .u64 a1 := hv1.1.1
  rw [hv0, hv1]
  exact YtkaehhfdjenmcaaF.soft_Cmp.calls a0 a1 r X.w h
/-! halter/soft.Sqrt, by hand -/
def soft_Sqrt.f (a0 : Int) : Option Int := YtkaehhfdjenmcaaF.soft_Sqrt.f a0
def soft_Sqrt.R (r : Int) : Tm := .v (.one (.sc (.int .u64 r)))
theorem soft_Sqrt.fun_ {a0 r : Int} (h : soft_Sqrt.f a0 = some r) : Fun cfg 13 [.one (.sc (.int .u64 a0))] [] (soft_Sqrt.R r) [] := by
  refine Fun.of_below (f := 13) (fn := Try.f13) Try.func13 rfl (by kernel_rfl) (r := .int .u64 r) (fun X => ⟨⟨rfl, rfl⟩, rfl⟩) fun X vs hE hvs hG => ?_
  obtain ⟨v0, us0, rfl, hv0, rfl⟩ := hvs
  have hv0 : v0 = .int .u64 a0 := hv0.1.1
  rw [hv0]
  exact YtkaehhfdjenmcaaF.soft_Sqrt.calls a0 r X.w h
/-! halter/soft.Min, by hand -/
def soft_Min.f (a0 : Int) (a1 : Int) : Option Int := YtkaehhfdjenmcaaF.soft_Min.f a0 a1
def soft_Min.R (r : Int) : Tm := .v (.one (.sc (.int .u64 r)))
theorem soft_Min.fun_ {a0 a1 r : Int} (h : soft_Min.f a0 a1 = some r) : Fun cfg 28 [.one (.sc (.int .u64 a0)), .one (.sc (.int .u64 a1))] [] (soft_Min.R r) [] := by
  refine Fun.of_below (f := 28) (fn := Try.f28) Try.func28 rfl (by kernel_rfl) (r := .int .u64 r) (fun X => ⟨⟨rfl, rfl⟩, rfl⟩) fun X vs hE hvs hG => ?_
  obtain ⟨v0, us0, rfl, hv0, v1, us1, rfl, hv1, rfl⟩ := hvs
  have hv0 : v0 = .int .u64 a0 := hv0.1.1
  have hv1 : v1 = .int .u64 a1 := hv1.1.1
  rw [hv0, hv1]
  exact YtkaehhfdjenmcaaF.soft_Min.calls a0 a1 r X.w h
/-! halter/soft.Max, by hand -/
def soft_Max.f (a0 : Int) (a1 : Int) : Option Int := YtkaehhfdjenmcaaF.soft_Max.f a0 a1
def soft_Max.R (r : Int) : Tm := .v (.one (.sc (.int .u64 r)))
theorem soft_Max.fun_ {a0 a1 r : Int} (h : soft_Max.f a0 a1 = some r) : Fun cfg 30 [.one (.sc (.int .u64 a0)), .one (.sc (.int .u64 a1))] [] (soft_Max.R r) [] := by
  refine Fun.of_below (f := 30) (fn := Try.f30) Try.func30 rfl (by kernel_rfl) (r := .int .u64 r) (fun X => ⟨⟨rfl, rfl⟩, rfl⟩) fun X vs hE hvs hG => ?_
  obtain ⟨v0, us0, rfl, hv0, v1, us1, rfl, hv1, rfl⟩ := hvs
  have hv0 : v0 = .int .u64 a0 := hv0.1.1
  have hv1 : v1 = .int .u64 a1 := hv1.1.1
  rw [hv0, hv1]
  exact YtkaehhfdjenmcaaF.soft_Max.calls a0 a1 r X.w h
/-! halter/soft.FromInt, by hand -/
def soft_FromInt.f (a0 : Int) : Option Int := YtkaehhfdjenmcaaF.soft_FromInt.f a0
def soft_FromInt.R (r : Int) : Tm := .v (.one (.sc (.int .u64 r)))
theorem soft_FromInt.fun_ {a0 r : Int} (h : soft_FromInt.f a0 = some r) : Fun cfg 23 [.one (.sc (.int .u32 a0))] [] (soft_FromInt.R r) [] := by
  refine Fun.of_below (f := 23) (fn := Try.f23) Try.func23 rfl (by kernel_rfl) (r := .int .u64 r) (fun X => ⟨⟨rfl, rfl⟩, rfl⟩) fun X vs hE hvs hG => ?_
  obtain ⟨v0, us0, rfl, hv0, rfl⟩ := hvs
  have hv0 : v0 = .int .u32 a0 := hv0.1.1
  rw [hv0]
  exact YtkaehhfdjenmcaaF.soft_FromInt.calls a0 r X.w h
/-! halter/soft.ToInt, by hand -/
def soft_ToInt.f (a0 : Int) : Option Int := YtkaehhfdjenmcaaF.soft_ToInt.f a0
def soft_ToInt.R (r : Int) : Tm := .v (.one (.sc (.int .u32 r)))
theorem soft_ToInt.fun_ {a0 r : Int} (h : soft_ToInt.f a0 = some r) : Fun cfg 25 [.one (.sc (.int .u64 a0))] [] (soft_ToInt.R r) [] := by
  refine Fun.of_below (f := 25) (fn := Try.f25) Try.func25 rfl (by kernel_rfl) (r := .int .u32 r) (fun X => ⟨⟨rfl, rfl⟩, rfl⟩) fun X vs hE hvs hG => ?_
  obtain ⟨v0, us0, rfl, hv0, rfl⟩ := hvs
  have hv0 : v0 = .int .u64 a0 := hv0.1.1
  rw [hv0]
  exact YtkaehhfdjenmcaaF.soft_ToInt.calls a0 r X.w h
/-! halter/halterref01.Sign -/
def halterref01_Sign.f (a0 : Int) : Option Int :=
  if (IntKind.wrap .i64 (a0)) ≥ (2147483648 : Int) then
    some (IntKind.wrap .i64 ((IntKind.wrap .i64 (a0)) - (4294967296 : Int)))
  else
    some (IntKind.wrap .i64 (a0))
def halterref01_Sign.R (r : Int) : Tm := .v (.one (.sc (.int .i64 r)))
theorem halterref01_Sign.fun_ {a0 : Int} {r : Int} (h : halterref01_Sign.f a0 = some r) : Fun cfg 22 [.one (.sc (.int .u32 a0))] [] (halterref01_Sign.R r) [] := by
  unfold halterref01_Sign.f at h
  refine fun_of_run cfg_ok (f := 22) (fn := Try.f22) Try.func22 rfl (by kernel_rfl) (rs := [.tmp 2]) rfl (nt := 11) rfl (l := fin) (k := (.br (.adj [] (.adj [] (.adj [] .nil))) (.adj [] (.adj [] (.adj [] (.adj [] .nil)))))) (to_goal (q := (True) ∧ (True) ∧ (((decide ((IntKind.wrap .i64 (a0)) ≥ (2147483648 : Int))) = true → (True ∧ (True) ∧ (True ∧ ((True) ∧ (True) ∧ (.v (.one (.sc (.int .i64 (IntKind.wrap .i64 ((IntKind.wrap .i64 (a0)) - (4294967296 : Int)))))) : Tm) = halterref01_Sign.R r ∧ ([] : List Box) = [])))) ∧ ((decide ((IntKind.wrap .i64 (a0)) ≥ (2147483648 : Int))) = false → (True ∧ (True ∧ (True ∧ ((True) ∧ (True) ∧ (.v (.one (.sc (.int .i64 (IntKind.wrap .i64 (a0))))) : Tm) = halterref01_Sign.R r ∧ ([] : List Box) = []))))))) (by kernel_rfl) ?_)
  refine ⟨trivial, ?_⟩
  refine ⟨trivial, ?_⟩
  refine ⟨fun b1 => ?_, fun b1 => ?_⟩
  · rw [if_pos (of_decide_eq_true b1)] at h
    refine ⟨trivial, ?_⟩
    refine ⟨trivial, ?_⟩
    refine ⟨trivial, ?_⟩
    obtain rfl := Option.some.inj h
    exact ⟨trivial, trivial, rfl, rfl⟩
  · rw [if_neg (of_decide_eq_false b1)] at h
    refine ⟨trivial, ?_⟩
    refine ⟨trivial, ?_⟩
    refine ⟨trivial, ?_⟩
    obtain rfl := Option.some.inj h
    exact ⟨trivial, trivial, rfl, rfl⟩
/-! halter/halterref01.Of -/
def halterref01_Of.f (a0 : Int) : Option Int :=
  if (Int.tmod a0 (4294967296 : Int)) < (0 : Int) then
    some (IntKind.wrap .u32 ((IntKind.wrap .i64 ((Int.tmod a0 (4294967296 : Int)) + (4294967296 : Int)))))
  else
    some (IntKind.wrap .u32 ((Int.tmod a0 (4294967296 : Int))))
def halterref01_Of.R (r : Int) : Tm := .v (.one (.sc (.int .u32 r)))
theorem halterref01_Of.fun_ {a0 : Int} {r : Int} (h : halterref01_Of.f a0 = some r) : Fun cfg 46 [.one (.sc (.int .i64 a0))] [] (halterref01_Of.R r) [] := by
  unfold halterref01_Of.f at h
  refine fun_of_run cfg_ok (f := 46) (fn := Try.f46) Try.func46 rfl (by kernel_rfl) (rs := [.tmp 2]) rfl (nt := 11) rfl (l := fin) (k := (.br (.adj [] (.adj [] (.adj [] (.adj [] .nil)))) (.adj [] (.adj [] (.adj [] (.adj [] .nil)))))) (to_goal (q := ((4294967296 : Int) ≠ 0) ∧ (True) ∧ (((decide ((Int.tmod a0 (4294967296 : Int)) < (0 : Int))) = true → (True ∧ (True) ∧ (True ∧ (True) ∧ (True ∧ ((True) ∧ (True) ∧ (.v (.one (.sc (.int .u32 (IntKind.wrap .u32 ((IntKind.wrap .i64 ((Int.tmod a0 (4294967296 : Int)) + (4294967296 : Int)))))))) : Tm) = halterref01_Of.R r ∧ ([] : List Box) = []))))) ∧ ((decide ((Int.tmod a0 (4294967296 : Int)) < (0 : Int))) = false → (True ∧ (True ∧ (True) ∧ (True ∧ ((True) ∧ (True) ∧ (.v (.one (.sc (.int .u32 (IntKind.wrap .u32 ((Int.tmod a0 (4294967296 : Int))))))) : Tm) = halterref01_Of.R r ∧ ([] : List Box) = []))))))) (by kernel_rfl) ?_)
  refine ⟨(by decide), ?_⟩
  refine ⟨trivial, ?_⟩
  refine ⟨fun b1 => ?_, fun b1 => ?_⟩
  · rw [if_pos (of_decide_eq_true b1)] at h
    refine ⟨trivial, ?_⟩
    refine ⟨trivial, ?_⟩
    refine ⟨trivial, ?_⟩
    refine ⟨trivial, ?_⟩
    refine ⟨trivial, ?_⟩
    obtain rfl := Option.some.inj h
    exact ⟨trivial, trivial, rfl, rfl⟩
  · rw [if_neg (of_decide_eq_false b1)] at h
    refine ⟨trivial, ?_⟩
    refine ⟨trivial, ?_⟩
    refine ⟨trivial, ?_⟩
    refine ⟨trivial, ?_⟩
    obtain rfl := Option.some.inj h
    exact ⟨trivial, trivial, rfl, rfl⟩
/-! halter/halterlaw02.bounded -/
def halterlaw02_bounded.f (a0 : Int) : Option Int :=
  (halterref01_Of.f (if (if a0 < (2147483647 : Int) then a0 else (2147483647 : Int)) > (-2147483648 : Int) then (if a0 < (2147483647 : Int) then a0 else (2147483647 : Int)) else (-2147483648 : Int))).bind fun t1 =>
  some t1
def halterlaw02_bounded.R (r : Int) : Tm := .v (.one (.sc (.int .u32 r)))
theorem halterlaw02_bounded.fun_ {a0 : Int} {r : Int} (h : halterlaw02_bounded.f a0 = some r) : Fun cfg 26 [.one (.sc (.int .i64 a0))] [] (halterlaw02_bounded.R r) [] := by
  unfold halterlaw02_bounded.f at h
  refine fun_of_run cfg_ok (f := 26) (fn := Try.f26) Try.func26 rfl (by kernel_rfl) (rs := [.tmp 2]) rfl (nt := 7) rfl (l := fin) (k := (.call true [] (Int) (fun t1 => halterref01_Of.R t1) (fun t1 => (.adj [] (.adj [] .nil))))) (to_goal (q := (True) ∧ (True) ∧ (∃ t1 : Int, (Fun cfg 46 [.one (.sc (.int .i64 (if (if a0 < (2147483647 : Int) then a0 else (2147483647 : Int)) > (-2147483648 : Int) then (if a0 < (2147483647 : Int) then a0 else (2147483647 : Int)) else (-2147483648 : Int))))] [] (halterref01_Of.R t1) [] ∧ True) ∧ (True ∧ ((True) ∧ (True) ∧ (.v (.one (.sc (.int .u32 t1))) : Tm) = halterlaw02_bounded.R r ∧ ([] : List Box) = [])))) (by kernel_rfl) ?_)
  refine ⟨trivial, ?_⟩
  refine ⟨trivial, ?_⟩
  obtain ⟨t1, ht1, h⟩ := of_bind h
  refine ⟨t1, ⟨halterref01_Of.fun_ ht1, trivial⟩, ?_⟩
  refine ⟨trivial, ?_⟩
  obtain rfl := Option.some.inj h
  exact ⟨trivial, trivial, rfl, rfl⟩
/-! halter/soft.Class -/
def soft_Class.f (a0 : Int) : Option Int :=
  if (bits .and .u64 (shr .u64 a0 (52 : Int)) (2047 : Int)) = (0 : Int) then
    if (bits .and .u64 a0 (4503599627370495 : Int)) = (0 : Int) then
      some (0 : Int)
    else
      some (1 : Int)
  else
    if (bits .and .u64 (shr .u64 a0 (52 : Int)) (2047 : Int)) < (2047 : Int) then
      some (2 : Int)
    else
      if (bits .and .u64 a0 (4503599627370495 : Int)) = (0 : Int) then
        some (3 : Int)
      else
        some (4 : Int)
def soft_Class.R (r : Int) : Tm := .v (.one (.sc (.int .i64 r)))
theorem soft_Class.fun_ {a0 : Int} {r : Int} (h : soft_Class.f a0 = some r) : Fun cfg 20 [.one (.sc (.int .u64 a0))] [] (soft_Class.R r) [] := by
  unfold soft_Class.f at h
  refine fun_of_run cfg_ok (f := 20) (fn := Try.f20) Try.func20 rfl (by kernel_rfl) (rs := [.tmp 2]) rfl (nt := 26) rfl (l := fin) (k := (.br (.one true (.one true (.br (.adj [] (.adj [] (.adj [] .nil))) (.one true (.adj [] (.adj [] (.adj [] .nil))))))) (.one false (.one false (.one false (.one false (.br (.adj [] (.adj [] (.adj [] .nil))) (.br (.adj [] (.adj [] (.adj [] .nil))) (.adj [] (.adj [] (.adj [] (.adj [] .nil)))))))))))) (to_goal (q := (0 ≤ (52 : Int)) ∧ (True) ∧ (True) ∧ (True) ∧ ((((bits .and .u64 (shr .u64 a0 (52 : Int)) (2047 : Int)) == (0 : Int)) = true → (((bits .and .u64 (shr .u64 a0 (52 : Int)) (2047 : Int)) == (0 : Int)) = true ∧ (True) ∧ (((bits .and .u64 (shr .u64 a0 (52 : Int)) (2047 : Int)) == (0 : Int)) = true ∧ ((((bits .and .u64 a0 (4503599627370495 : Int)) == (0 : Int)) = true → (True ∧ (True ∧ ((True) ∧ (True) ∧ (.v (.one (.sc (.int .i64 (0 : Int)))) : Tm) = soft_Class.R r ∧ ([] : List Box) = [])))) ∧ (((bits .and .u64 a0 (4503599627370495 : Int)) == (0 : Int)) = false → (True) ∧ (((bits .and .u64 (shr .u64 a0 (52 : Int)) (2047 : Int)) == (0 : Int)) = true ∧ (True ∧ (True ∧ ((True) ∧ (True) ∧ (.v (.one (.sc (.int .i64 (1 : Int)))) : Tm) = soft_Class.R r ∧ ([] : List Box) = []))))))))) ∧ (((bits .and .u64 (shr .u64 a0 (52 : Int)) (2047 : Int)) == (0 : Int)) = false → (((bits .and .u64 (shr .u64 a0 (52 : Int)) (2047 : Int)) == (0 : Int)) = false ∧ (((bits .and .u64 (shr .u64 a0 (52 : Int)) (2047 : Int)) == (0 : Int)) = false ∧ (false = false ∧ (True) ∧ (((bits .and .u64 (shr .u64 a0 (52 : Int)) (2047 : Int)) == (0 : Int)) = false ∧ (True) ∧ (((decide ((bits .and .u64 (shr .u64 a0 (52 : Int)) (2047 : Int)) < (2047 : Int))) = true → (True ∧ (True ∧ ((True) ∧ (True) ∧ (.v (.one (.sc (.int .i64 (2 : Int)))) : Tm) = soft_Class.R r ∧ ([] : List Box) = [])))) ∧ ((decide ((bits .and .u64 (shr .u64 a0 (52 : Int)) (2047 : Int)) < (2047 : Int))) = false → (True) ∧ ((((bits .and .u64 a0 (4503599627370495 : Int)) == (0 : Int)) = true → (True ∧ (True ∧ ((True) ∧ (True) ∧ (.v (.one (.sc (.int .i64 (3 : Int)))) : Tm) = soft_Class.R r ∧ ([] : List Box) = [])))) ∧ (((bits .and .u64 a0 (4503599627370495 : Int)) == (0 : Int)) = false → (True ∧ (True ∧ (True ∧ ((True) ∧ (True) ∧ (.v (.one (.sc (.int .i64 (4 : Int)))) : Tm) = soft_Class.R r ∧ ([] : List Box) = []))))))))))))))) (by kernel_rfl) ?_)
  refine ⟨(by decide), ?_⟩
  refine ⟨trivial, ?_⟩
  refine ⟨trivial, ?_⟩
  refine ⟨trivial, ?_⟩
  refine ⟨fun b1 => ?_, fun b1 => ?_⟩
  · rw [if_pos (beq_t b1)] at h
    refine ⟨b1, ?_⟩
    refine ⟨trivial, ?_⟩
    refine ⟨b1, ?_⟩
    refine ⟨fun b2 => ?_, fun b2 => ?_⟩
    · rw [if_pos (beq_t b2)] at h
      refine ⟨trivial, ?_⟩
      refine ⟨trivial, ?_⟩
      obtain rfl := Option.some.inj h
      exact ⟨trivial, trivial, rfl, rfl⟩
    · rw [if_neg (beq_f b2)] at h
      refine ⟨trivial, ?_⟩
      refine ⟨b1, ?_⟩
      refine ⟨trivial, ?_⟩
      refine ⟨trivial, ?_⟩
      obtain rfl := Option.some.inj h
      exact ⟨trivial, trivial, rfl, rfl⟩
  · rw [if_neg (beq_f b1)] at h
    refine ⟨b1, ?_⟩
    refine ⟨b1, ?_⟩
    refine ⟨rfl, ?_⟩
    refine ⟨trivial, ?_⟩
    refine ⟨b1, ?_⟩
    refine ⟨trivial, ?_⟩
    refine ⟨fun b3 => ?_, fun b3 => ?_⟩
    · rw [if_pos (of_decide_eq_true b3)] at h
      refine ⟨trivial, ?_⟩
      refine ⟨trivial, ?_⟩
      obtain rfl := Option.some.inj h
      exact ⟨trivial, trivial, rfl, rfl⟩
    · rw [if_neg (of_decide_eq_false b3)] at h
      refine ⟨trivial, ?_⟩
      refine ⟨fun b4 => ?_, fun b4 => ?_⟩
      · rw [if_pos (beq_t b4)] at h
        refine ⟨trivial, ?_⟩
        refine ⟨trivial, ?_⟩
        obtain rfl := Option.some.inj h
        exact ⟨trivial, trivial, rfl, rfl⟩
      · rw [if_neg (beq_f b4)] at h
        refine ⟨trivial, ?_⟩
        refine ⟨trivial, ?_⟩
        refine ⟨trivial, ?_⟩
        obtain rfl := Option.some.inj h
        exact ⟨trivial, trivial, rfl, rfl⟩
/-! halter/halterlaw02.sure -/
def halterlaw02_sure.f : Option Bool :=
  (soft_Add.f (4607182418800017408 : Int) (4607182418800017408 : Int)).bind fun t1 =>
  if t1 = (4611686018427387904 : Int) then
    (soft_Div.f (4607182418800017408 : Int) (0 : Int)).bind fun t3 =>
    if t3 = (9218868437227405312 : Int) then
      (soft_Sqrt.f (9223372036854775808 : Int)).bind fun t5 =>
      if t5 = (9223372036854775808 : Int) then
        (soft_Cmp.f (4607182418800017408 : Int) (4611686018427387904 : Int)).bind fun t7 =>
        if t7 = (-1 : Int) then
          (soft_ToInt.f (4611686018427387904 : Int)).bind fun t9 =>
          if t9 = (2 : Int) then
            (soft_FromInt.f (4294967295 : Int)).bind fun t11 =>
            if t11 = (13830554455654793216 : Int) then
              (soft_Class.f (1 : Int)).bind fun t13 =>
              if t13 = (1 : Int) then
                (soft_Mul.f (4611686018427387904 : Int) (4611686018427387904 : Int)).bind fun t15 =>
                some (t15 == (4616189618054758400 : Int))
              else
                some false
            else
              some false
          else
            some false
        else
          some false
      else
        some false
    else
      some false
  else
    some false
def halterlaw02_sure.R (r : Bool) : Tm := .v (.one (.sc (.bool r)))
theorem halterlaw02_sure.fun_ {r : Bool} (h : halterlaw02_sure.f = some r) : Fun cfg 15 [] [] (halterlaw02_sure.R r) [] := by
  unfold halterlaw02_sure.f at h
  refine fun_of_run cfg_ok (f := 15) (fn := Try.f15) Try.func15 rfl (by kernel_rfl) (rs := [.tmp 0]) rfl (nt := 31) rfl (l := fin) (k := (.call true [] (Int) (fun t1 => soft_Add.R t1) (fun t1 => (.br (.call true [] (Int) (fun t3 => soft_Div.R t3) (fun t3 => (.one true (.one true (.br (.call true [] (Int) (fun t5 => soft_Sqrt.R t5) (fun t5 => (.one true (.one true (.br (.call true [] (Int) (fun t7 => soft_Cmp.R t7) (fun t7 => (.one true (.one true (.br (.call true [] (Int) (fun t9 => soft_ToInt.R t9) (fun t9 => (.one true (.one true (.br (.call true [] (Int) (fun t11 => soft_FromInt.R t11) (fun t11 => (.one true (.one true (.br (.call true [] (Int) (fun t13 => soft_Class.R t13) (fun t13 => (.one true (.one true (.br (.call true [] (Int) (fun t15 => soft_Mul.R t15) (fun t15 => (.one true (.one true (.adj [] (.adj [] .nil)))))) (.one false (.one false (.adj [] (.adj [] .nil))))))))) (.one false (.one false (.one false (.one false (.one false (.adj [] (.adj [] .nil)))))))))))) (.one false (.one false (.one false (.one false (.one false (.one false (.one false (.one false (.adj [] (.adj [] .nil))))))))))))))) (.one false (.one false (.one false (.one false (.one false (.one false (.one false (.one false (.one false (.one false (.one false (.adj [] (.adj [] .nil)))))))))))))))))) (.one false (.one false (.one false (.one false (.one false (.one false (.one false (.one false (.one false (.one false (.one false (.one false (.one false (.one false (.adj [] (.adj [] .nil))))))))))))))))))))) (.one false (.one false (.one false (.one false (.one false (.one false (.one false (.one false (.one false (.one false (.one false (.one false (.one false (.one false (.one false (.one false (.one false (.adj [] (.adj [] .nil)))))))))))))))))))))))) (.one false (.one false (.one false (.one false (.one false (.one false (.one false (.one false (.one false (.one false (.one false (.one false (.one false (.one false (.one false (.one false (.one false (.one false (.one false (.one false (.adj [] (.adj [] .nil)))))))))))))))))))))))))) (to_goal (q := (∃ t1 : Int, (Fun cfg 16 [.one (.sc (.int .u64 (4607182418800017408 : Int))), .one (.sc (.int .u64 (4607182418800017408 : Int)))] [] (soft_Add.R t1) [] ∧ True) ∧ (True) ∧ (((t1 == (4611686018427387904 : Int)) = true → (∃ t3 : Int, (Fun cfg 11 [.one (.sc (.int .u64 (4607182418800017408 : Int))), .one (.sc (.int .u64 (0 : Int)))] [] (soft_Div.R t3) [] ∧ True) ∧ ((t1 == (4611686018427387904 : Int)) = true ∧ (True) ∧ ((t1 == (4611686018427387904 : Int)) = true ∧ (((t3 == (9218868437227405312 : Int)) = true → (∃ t5 : Int, (Fun cfg 13 [.one (.sc (.int .u64 (9223372036854775808 : Int)))] [] (soft_Sqrt.R t5) [] ∧ True) ∧ ((t3 == (9218868437227405312 : Int)) = true ∧ (True) ∧ ((t3 == (9218868437227405312 : Int)) = true ∧ (((t5 == (9223372036854775808 : Int)) = true → (∃ t7 : Int, (Fun cfg 24 [.one (.sc (.int .u64 (4607182418800017408 : Int))), .one (.sc (.int .u64 (4611686018427387904 : Int)))] [] (soft_Cmp.R t7) [] ∧ True) ∧ ((t5 == (9223372036854775808 : Int)) = true ∧ (True) ∧ ((t5 == (9223372036854775808 : Int)) = true ∧ (((t7 == (-1 : Int)) = true → (∃ t9 : Int, (Fun cfg 25 [.one (.sc (.int .u64 (4611686018427387904 : Int)))] [] (soft_ToInt.R t9) [] ∧ True) ∧ ((t7 == (-1 : Int)) = true ∧ (True) ∧ ((t7 == (-1 : Int)) = true ∧ (((t9 == (2 : Int)) = true → (∃ t11 : Int, (Fun cfg 23 [.one (.sc (.int .u32 (4294967295 : Int)))] [] (soft_FromInt.R t11) [] ∧ True) ∧ ((t9 == (2 : Int)) = true ∧ (True) ∧ ((t9 == (2 : Int)) = true ∧ (((t11 == (13830554455654793216 : Int)) = true → (∃ t13 : Int, (Fun cfg 20 [.one (.sc (.int .u64 (1 : Int)))] [] (soft_Class.R t13) [] ∧ True) ∧ ((t11 == (13830554455654793216 : Int)) = true ∧ (True) ∧ ((t11 == (13830554455654793216 : Int)) = true ∧ (((t13 == (1 : Int)) = true → (∃ t15 : Int, (Fun cfg 9 [.one (.sc (.int .u64 (4611686018427387904 : Int))), .one (.sc (.int .u64 (4611686018427387904 : Int)))] [] (soft_Mul.R t15) [] ∧ True) ∧ ((t13 == (1 : Int)) = true ∧ (True) ∧ ((t13 == (1 : Int)) = true ∧ (True ∧ ((True) ∧ (True) ∧ (.v (.one (.sc (.bool (t15 == (4616189618054758400 : Int))))) : Tm) = halterlaw02_sure.R r ∧ ([] : List Box) = [])))))) ∧ ((t13 == (1 : Int)) = false → ((t13 == (1 : Int)) = false ∧ ((t13 == (1 : Int)) = false ∧ (True ∧ ((True) ∧ (True) ∧ (.v (.one (.sc (.bool false))) : Tm) = halterlaw02_sure.R r ∧ ([] : List Box) = [])))))))))) ∧ ((t11 == (13830554455654793216 : Int)) = false → ((t11 == (13830554455654793216 : Int)) = false ∧ ((t11 == (13830554455654793216 : Int)) = false ∧ (false = false ∧ (false = false ∧ (false = false ∧ (True ∧ ((True) ∧ (True) ∧ (.v (.one (.sc (.bool false))) : Tm) = halterlaw02_sure.R r ∧ ([] : List Box) = []))))))))))))) ∧ ((t9 == (2 : Int)) = false → ((t9 == (2 : Int)) = false ∧ ((t9 == (2 : Int)) = false ∧ (false = false ∧ (false = false ∧ (false = false ∧ (false = false ∧ (false = false ∧ (false = false ∧ (True ∧ ((True) ∧ (True) ∧ (.v (.one (.sc (.bool false))) : Tm) = halterlaw02_sure.R r ∧ ([] : List Box) = [])))))))))))))))) ∧ ((t7 == (-1 : Int)) = false → ((t7 == (-1 : Int)) = false ∧ ((t7 == (-1 : Int)) = false ∧ (false = false ∧ (false = false ∧ (false = false ∧ (false = false ∧ (false = false ∧ (false = false ∧ (false = false ∧ (false = false ∧ (false = false ∧ (True ∧ ((True) ∧ (True) ∧ (.v (.one (.sc (.bool false))) : Tm) = halterlaw02_sure.R r ∧ ([] : List Box) = []))))))))))))))))))) ∧ ((t5 == (9223372036854775808 : Int)) = false → ((t5 == (9223372036854775808 : Int)) = false ∧ ((t5 == (9223372036854775808 : Int)) = false ∧ (false = false ∧ (false = false ∧ (false = false ∧ (false = false ∧ (false = false ∧ (false = false ∧ (false = false ∧ (false = false ∧ (false = false ∧ (false = false ∧ (false = false ∧ (false = false ∧ (True ∧ ((True) ∧ (True) ∧ (.v (.one (.sc (.bool false))) : Tm) = halterlaw02_sure.R r ∧ ([] : List Box) = [])))))))))))))))))))))) ∧ ((t3 == (9218868437227405312 : Int)) = false → ((t3 == (9218868437227405312 : Int)) = false ∧ ((t3 == (9218868437227405312 : Int)) = false ∧ (false = false ∧ (false = false ∧ (false = false ∧ (false = false ∧ (false = false ∧ (false = false ∧ (false = false ∧ (false = false ∧ (false = false ∧ (false = false ∧ (false = false ∧ (false = false ∧ (false = false ∧ (false = false ∧ (false = false ∧ (True ∧ ((True) ∧ (True) ∧ (.v (.one (.sc (.bool false))) : Tm) = halterlaw02_sure.R r ∧ ([] : List Box) = []))))))))))))))))))))))))) ∧ ((t1 == (4611686018427387904 : Int)) = false → ((t1 == (4611686018427387904 : Int)) = false ∧ ((t1 == (4611686018427387904 : Int)) = false ∧ (false = false ∧ (false = false ∧ (false = false ∧ (false = false ∧ (false = false ∧ (false = false ∧ (false = false ∧ (false = false ∧ (false = false ∧ (false = false ∧ (false = false ∧ (false = false ∧ (false = false ∧ (false = false ∧ (false = false ∧ (false = false ∧ (false = false ∧ (false = false ∧ (True ∧ ((True) ∧ (True) ∧ (.v (.one (.sc (.bool false))) : Tm) = halterlaw02_sure.R r ∧ ([] : List Box) = [])))))))))))))))))))))))))) (by kernel_rfl) ?_)
  obtain ⟨t1, ht1, h⟩ := of_bind h
  refine ⟨t1, ⟨soft_Add.fun_ ht1, trivial⟩, ?_⟩
  refine ⟨trivial, ?_⟩
  refine ⟨fun b2 => ?_, fun b2 => ?_⟩
  · rw [if_pos (beq_t b2)] at h
    obtain ⟨t3, ht3, h⟩ := of_bind h
    refine ⟨t3, ⟨soft_Div.fun_ ht3, trivial⟩, ?_⟩
    refine ⟨b2, ?_⟩
    refine ⟨trivial, ?_⟩
    refine ⟨b2, ?_⟩
    refine ⟨fun b4 => ?_, fun b4 => ?_⟩
    · rw [if_pos (beq_t b4)] at h
      obtain ⟨t5, ht5, h⟩ := of_bind h
      refine ⟨t5, ⟨soft_Sqrt.fun_ ht5, trivial⟩, ?_⟩
      refine ⟨b4, ?_⟩
      refine ⟨trivial, ?_⟩
      refine ⟨b4, ?_⟩
      refine ⟨fun b6 => ?_, fun b6 => ?_⟩
      · rw [if_pos (beq_t b6)] at h
        obtain ⟨t7, ht7, h⟩ := of_bind h
        refine ⟨t7, ⟨soft_Cmp.fun_ ht7, trivial⟩, ?_⟩
        refine ⟨b6, ?_⟩
        refine ⟨trivial, ?_⟩
        refine ⟨b6, ?_⟩
        refine ⟨fun b8 => ?_, fun b8 => ?_⟩
        · rw [if_pos (beq_t b8)] at h
          obtain ⟨t9, ht9, h⟩ := of_bind h
          refine ⟨t9, ⟨soft_ToInt.fun_ ht9, trivial⟩, ?_⟩
          refine ⟨b8, ?_⟩
          refine ⟨trivial, ?_⟩
          refine ⟨b8, ?_⟩
          refine ⟨fun b10 => ?_, fun b10 => ?_⟩
          · rw [if_pos (beq_t b10)] at h
            obtain ⟨t11, ht11, h⟩ := of_bind h
            refine ⟨t11, ⟨soft_FromInt.fun_ ht11, trivial⟩, ?_⟩
            refine ⟨b10, ?_⟩
            refine ⟨trivial, ?_⟩
            refine ⟨b10, ?_⟩
            refine ⟨fun b12 => ?_, fun b12 => ?_⟩
            · rw [if_pos (beq_t b12)] at h
              obtain ⟨t13, ht13, h⟩ := of_bind h
              refine ⟨t13, ⟨soft_Class.fun_ ht13, trivial⟩, ?_⟩
              refine ⟨b12, ?_⟩
              refine ⟨trivial, ?_⟩
              refine ⟨b12, ?_⟩
              refine ⟨fun b14 => ?_, fun b14 => ?_⟩
              · rw [if_pos (beq_t b14)] at h
                obtain ⟨t15, ht15, h⟩ := of_bind h
                refine ⟨t15, ⟨soft_Mul.fun_ ht15, trivial⟩, ?_⟩
                refine ⟨b14, ?_⟩
                refine ⟨trivial, ?_⟩
                refine ⟨b14, ?_⟩
                refine ⟨trivial, ?_⟩
                obtain rfl := Option.some.inj h
                exact ⟨trivial, trivial, rfl, rfl⟩
              · rw [if_neg (beq_f b14)] at h
                refine ⟨b14, ?_⟩
                refine ⟨b14, ?_⟩
                refine ⟨trivial, ?_⟩
                obtain rfl := Option.some.inj h
                exact ⟨trivial, trivial, rfl, rfl⟩
            · rw [if_neg (beq_f b12)] at h
              refine ⟨b12, ?_⟩
              refine ⟨b12, ?_⟩
              refine ⟨rfl, ?_⟩
              refine ⟨rfl, ?_⟩
              refine ⟨rfl, ?_⟩
              refine ⟨trivial, ?_⟩
              obtain rfl := Option.some.inj h
              exact ⟨trivial, trivial, rfl, rfl⟩
          · rw [if_neg (beq_f b10)] at h
            refine ⟨b10, ?_⟩
            refine ⟨b10, ?_⟩
            refine ⟨rfl, ?_⟩
            refine ⟨rfl, ?_⟩
            refine ⟨rfl, ?_⟩
            refine ⟨rfl, ?_⟩
            refine ⟨rfl, ?_⟩
            refine ⟨rfl, ?_⟩
            refine ⟨trivial, ?_⟩
            obtain rfl := Option.some.inj h
            exact ⟨trivial, trivial, rfl, rfl⟩
        · rw [if_neg (beq_f b8)] at h
          refine ⟨b8, ?_⟩
          refine ⟨b8, ?_⟩
          refine ⟨rfl, ?_⟩
          refine ⟨rfl, ?_⟩
          refine ⟨rfl, ?_⟩
          refine ⟨rfl, ?_⟩
          refine ⟨rfl, ?_⟩
          refine ⟨rfl, ?_⟩
          refine ⟨rfl, ?_⟩
          refine ⟨rfl, ?_⟩
          refine ⟨rfl, ?_⟩
          refine ⟨trivial, ?_⟩
          obtain rfl := Option.some.inj h
          exact ⟨trivial, trivial, rfl, rfl⟩
      · rw [if_neg (beq_f b6)] at h
        refine ⟨b6, ?_⟩
        refine ⟨b6, ?_⟩
        refine ⟨rfl, ?_⟩
        refine ⟨rfl, ?_⟩
        refine ⟨rfl, ?_⟩
        refine ⟨rfl, ?_⟩
        refine ⟨rfl, ?_⟩
        refine ⟨rfl, ?_⟩
        refine ⟨rfl, ?_⟩
        refine ⟨rfl, ?_⟩
        refine ⟨rfl, ?_⟩
        refine ⟨rfl, ?_⟩
        refine ⟨rfl, ?_⟩
        refine ⟨rfl, ?_⟩
        refine ⟨trivial, ?_⟩
        obtain rfl := Option.some.inj h
        exact ⟨trivial, trivial, rfl, rfl⟩
    · rw [if_neg (beq_f b4)] at h
      refine ⟨b4, ?_⟩
      refine ⟨b4, ?_⟩
      refine ⟨rfl, ?_⟩
      refine ⟨rfl, ?_⟩
      refine ⟨rfl, ?_⟩
      refine ⟨rfl, ?_⟩
      refine ⟨rfl, ?_⟩
      refine ⟨rfl, ?_⟩
      refine ⟨rfl, ?_⟩
      refine ⟨rfl, ?_⟩
      refine ⟨rfl, ?_⟩
      refine ⟨rfl, ?_⟩
      refine ⟨rfl, ?_⟩
      refine ⟨rfl, ?_⟩
      refine ⟨rfl, ?_⟩
      refine ⟨rfl, ?_⟩
      refine ⟨rfl, ?_⟩
      refine ⟨trivial, ?_⟩
      obtain rfl := Option.some.inj h
      exact ⟨trivial, trivial, rfl, rfl⟩
  · rw [if_neg (beq_f b2)] at h
    refine ⟨b2, ?_⟩
    refine ⟨b2, ?_⟩
    refine ⟨rfl, ?_⟩
    refine ⟨rfl, ?_⟩
    refine ⟨rfl, ?_⟩
    refine ⟨rfl, ?_⟩
    refine ⟨rfl, ?_⟩
    refine ⟨rfl, ?_⟩
    refine ⟨rfl, ?_⟩
    refine ⟨rfl, ?_⟩
    refine ⟨rfl, ?_⟩
    refine ⟨rfl, ?_⟩
    refine ⟨rfl, ?_⟩
    refine ⟨rfl, ?_⟩
    refine ⟨rfl, ?_⟩
    refine ⟨rfl, ?_⟩
    refine ⟨rfl, ?_⟩
    refine ⟨rfl, ?_⟩
    refine ⟨rfl, ?_⟩
    refine ⟨rfl, ?_⟩
    refine ⟨trivial, ?_⟩
    obtain rfl := Option.some.inj h
    exact ⟨trivial, trivial, rfl, rfl⟩
/-! halter/halterlaw02.SoftInts -/
def halterlaw02_SoftInts.f (a0 : Int) (a1 : Int) : Option Bool :=
  (halterref01_Sign.f a0).bind fun t1 =>
  (halterref01_Sign.f a1).bind fun t2 =>
  (soft_FromInt.f a0).bind fun t3 =>
  (soft_FromInt.f a1).bind fun t4 =>
  if t1 < t2 then
    if t1 > t2 then
      (soft_Cmp.f t3 t4).bind fun t7 =>
      if t7 = (1 : Int) then
        (soft_Add.f t3 t4).bind fun t9 =>
        (soft_ToInt.f t9).bind fun t10 =>
        (halterlaw02_bounded.f (IntKind.wrap .i64 (t1 + t2))).bind fun t11 =>
        if t10 = t11 then
          (soft_Sub.f t3 t4).bind fun t13 =>
          (soft_ToInt.f t13).bind fun t14 =>
          (halterlaw02_bounded.f (IntKind.wrap .i64 (t1 - t2))).bind fun t15 =>
          if t14 = t15 then
            halterlaw02_sure.f.bind fun t17 =>
            some t17
          else
            some false
        else
          some false
      else
        some false
    else
      (soft_Cmp.f t3 t4).bind fun t18 =>
      if t18 = (-1 : Int) then
        (soft_Add.f t3 t4).bind fun t20 =>
        (soft_ToInt.f t20).bind fun t21 =>
        (halterlaw02_bounded.f (IntKind.wrap .i64 (t1 + t2))).bind fun t22 =>
        if t21 = t22 then
          (soft_Sub.f t3 t4).bind fun t24 =>
          (soft_ToInt.f t24).bind fun t25 =>
          (halterlaw02_bounded.f (IntKind.wrap .i64 (t1 - t2))).bind fun t26 =>
          if t25 = t26 then
            halterlaw02_sure.f.bind fun t28 =>
            some t28
          else
            some false
        else
          some false
      else
        some false
  else
    if t1 > t2 then
      (soft_Cmp.f t3 t4).bind fun t30 =>
      if t30 = (1 : Int) then
        (soft_Add.f t3 t4).bind fun t32 =>
        (soft_ToInt.f t32).bind fun t33 =>
        (halterlaw02_bounded.f (IntKind.wrap .i64 (t1 + t2))).bind fun t34 =>
        if t33 = t34 then
          (soft_Sub.f t3 t4).bind fun t36 =>
          (soft_ToInt.f t36).bind fun t37 =>
          (halterlaw02_bounded.f (IntKind.wrap .i64 (t1 - t2))).bind fun t38 =>
          if t37 = t38 then
            halterlaw02_sure.f.bind fun t40 =>
            some t40
          else
            some false
        else
          some false
      else
        some false
    else
      (soft_Cmp.f t3 t4).bind fun t41 =>
      if t41 = (0 : Int) then
        (soft_Add.f t3 t4).bind fun t43 =>
        (soft_ToInt.f t43).bind fun t44 =>
        (halterlaw02_bounded.f (IntKind.wrap .i64 (t1 + t2))).bind fun t45 =>
        if t44 = t45 then
          (soft_Sub.f t3 t4).bind fun t47 =>
          (soft_ToInt.f t47).bind fun t48 =>
          (halterlaw02_bounded.f (IntKind.wrap .i64 (t1 - t2))).bind fun t49 =>
          if t48 = t49 then
            halterlaw02_sure.f.bind fun t51 =>
            some t51
          else
            some false
        else
          some false
      else
        some false
def halterlaw02_SoftInts.R (r : Bool) : Tm := .v (.one (.sc (.bool r)))
theorem halterlaw02_SoftInts.fun_ {a0 : Int} {a1 : Int} {r : Bool} (h : halterlaw02_SoftInts.f a0 a1 = some r) : Fun cfg 5 [.one (.sc (.int .u32 a0)), .one (.sc (.int .u32 a1))] [] (halterlaw02_SoftInts.R r) [] := by
  unfold halterlaw02_SoftInts.f at h
  refine fun_of_run cfg_ok (f := 5) (fn := Try.f5) Try.func5 rfl (by kernel_rfl) (rs := [.tmp 4]) rfl (nt := 54) rfl (l := fin) (k := (.call true [] (Int) (fun t1 => halterref01_Sign.R t1) (fun t1 => (.call true [] (Int) (fun t2 => halterref01_Sign.R t2) (fun t2 => (.call true [] (Int) (fun t3 => soft_FromInt.R t3) (fun t3 => (.call true [] (Int) (fun t4 => soft_FromInt.R t4) (fun t4 => (.br (.br (.call true [] (Int) (fun t7 => soft_Cmp.R t7) (fun t7 => (.br (.one true (.one true (.call true [] (Int) (fun t9 => soft_Add.R t9) (fun t9 => (.one true (.call true [] (Int) (fun t10 => soft_ToInt.R t10) (fun t10 => (.one true (.one true (.one true (.one true (.call true [] (Int) (fun t11 => halterlaw02_bounded.R t11) (fun t11 => (.one true (.one true (.br (.one true (.one true (.call true [] (Int) (fun t13 => soft_Sub.R t13) (fun t13 => (.one true (.call true [] (Int) (fun t14 => soft_ToInt.R t14) (fun t14 => (.one true (.one true (.one true (.one true (.call true [] (Int) (fun t15 => halterlaw02_bounded.R t15) (fun t15 => (.one true (.one true (.br (.call true [] (Bool) (fun t17 => halterlaw02_sure.R t17) (fun t17 => (.one true (.adj [] (.adj [] .nil))))) (.one false (.adj [] (.adj [] .nil))))))))))))))))))) (.one false (.one false (.one false (.one false (.one false (.one false (.one false (.one false (.one false (.one false (.one false (.adj [] (.adj [] .nil))))))))))))))))))))))))))))) (.one false (.one false (.one false (.one false (.one false (.one false (.one false (.one false (.one false (.one false (.one false (.one false (.one false (.one false (.one false (.one false (.one false (.one false (.one false (.one false (.one false (.adj [] (.adj [] .nil)))))))))))))))))))))))))) (.call true [] (Int) (fun t18 => soft_Cmp.R t18) (fun t18 => (.br (.one true (.one true (.call true [] (Int) (fun t20 => soft_Add.R t20) (fun t20 => (.one true (.call true [] (Int) (fun t21 => soft_ToInt.R t21) (fun t21 => (.one true (.one true (.one true (.one true (.call true [] (Int) (fun t22 => halterlaw02_bounded.R t22) (fun t22 => (.one true (.one true (.br (.one true (.one true (.call true [] (Int) (fun t24 => soft_Sub.R t24) (fun t24 => (.one true (.call true [] (Int) (fun t25 => soft_ToInt.R t25) (fun t25 => (.one true (.one true (.one true (.one true (.call true [] (Int) (fun t26 => halterlaw02_bounded.R t26) (fun t26 => (.one true (.one true (.br (.call true [] (Bool) (fun t28 => halterlaw02_sure.R t28) (fun t28 => (.one true (.adj [] (.adj [] .nil))))) (.one false (.adj [] (.adj [] .nil))))))))))))))))))) (.one false (.one false (.one false (.one false (.one false (.one false (.one false (.one false (.one false (.one false (.one false (.adj [] (.adj [] .nil))))))))))))))))))))))))))))) (.one false (.one false (.one false (.one false (.one false (.one false (.one false (.one false (.one false (.one false (.one false (.one false (.one false (.one false (.one false (.one false (.one false (.one false (.one false (.one false (.one false (.adj [] (.adj [] .nil))))))))))))))))))))))))))) (.br (.call true [] (Int) (fun t30 => soft_Cmp.R t30) (fun t30 => (.br (.one true (.one true (.call true [] (Int) (fun t32 => soft_Add.R t32) (fun t32 => (.one true (.call true [] (Int) (fun t33 => soft_ToInt.R t33) (fun t33 => (.one true (.one true (.one true (.one true (.call true [] (Int) (fun t34 => halterlaw02_bounded.R t34) (fun t34 => (.one true (.one true (.br (.one true (.one true (.call true [] (Int) (fun t36 => soft_Sub.R t36) (fun t36 => (.one true (.call true [] (Int) (fun t37 => soft_ToInt.R t37) (fun t37 => (.one true (.one true (.one true (.one true (.call true [] (Int) (fun t38 => halterlaw02_bounded.R t38) (fun t38 => (.one true (.one true (.br (.call true [] (Bool) (fun t40 => halterlaw02_sure.R t40) (fun t40 => (.one true (.adj [] (.adj [] .nil))))) (.one false (.adj [] (.adj [] .nil))))))))))))))))))) (.one false (.one false (.one false (.one false (.one false (.one false (.one false (.one false (.one false (.one false (.one false (.adj [] (.adj [] .nil))))))))))))))))))))))))))))) (.one false (.one false (.one false (.one false (.one false (.one false (.one false (.one false (.one false (.one false (.one false (.one false (.one false (.one false (.one false (.one false (.one false (.one false (.one false (.one false (.one false (.adj [] (.adj [] .nil)))))))))))))))))))))))))) (.call true [] (Int) (fun t41 => soft_Cmp.R t41) (fun t41 => (.br (.one true (.one true (.call true [] (Int) (fun t43 => soft_Add.R t43) (fun t43 => (.one true (.call true [] (Int) (fun t44 => soft_ToInt.R t44) (fun t44 => (.one true (.one true (.one true (.one true (.call true [] (Int) (fun t45 => halterlaw02_bounded.R t45) (fun t45 => (.one true (.one true (.br (.one true (.one true (.call true [] (Int) (fun t47 => soft_Sub.R t47) (fun t47 => (.one true (.call true [] (Int) (fun t48 => soft_ToInt.R t48) (fun t48 => (.one true (.one true (.one true (.one true (.call true [] (Int) (fun t49 => halterlaw02_bounded.R t49) (fun t49 => (.one true (.one true (.br (.call true [] (Bool) (fun t51 => halterlaw02_sure.R t51) (fun t51 => (.one true (.adj [] (.adj [] .nil))))) (.one false (.adj [] (.adj [] .nil))))))))))))))))))) (.one false (.one false (.one false (.one false (.one false (.one false (.one false (.one false (.one false (.one false (.one false (.adj [] (.adj [] .nil))))))))))))))))))))))))))))) (.one false (.one false (.one false (.one false (.one false (.one false (.one false (.one false (.one false (.one false (.one false (.one false (.one false (.one false (.one false (.one false (.one false (.one false (.one false (.one false (.one false (.adj [] (.adj [] .nil))))))))))))))))))))))))))))))))))))) (to_goal (q := (∃ t1 : Int, (Fun cfg 22 [.one (.sc (.int .u32 a0))] [] (halterref01_Sign.R t1) [] ∧ True) ∧ (∃ t2 : Int, (Fun cfg 22 [.one (.sc (.int .u32 a1))] [] (halterref01_Sign.R t2) [] ∧ True) ∧ (∃ t3 : Int, (Fun cfg 23 [.one (.sc (.int .u32 a0))] [] (soft_FromInt.R t3) [] ∧ True) ∧ (∃ t4 : Int, (Fun cfg 23 [.one (.sc (.int .u32 a1))] [] (soft_FromInt.R t4) [] ∧ True) ∧ (True) ∧ (((decide (t1 < t2)) = true → (True) ∧ (((decide (t1 > t2)) = true → (∃ t7 : Int, (Fun cfg 24 [.one (.sc (.int .u64 t3)), .one (.sc (.int .u64 t4))] [] (soft_Cmp.R t7) [] ∧ True) ∧ (True) ∧ (((t7 == (1 : Int)) = true → ((t7 == (1 : Int)) = true ∧ ((t7 == (1 : Int)) = true ∧ (∃ t9 : Int, (Fun cfg 16 [.one (.sc (.int .u64 t3)), .one (.sc (.int .u64 t4))] [] (soft_Add.R t9) [] ∧ True) ∧ ((t7 == (1 : Int)) = true ∧ (∃ t10 : Int, (Fun cfg 25 [.one (.sc (.int .u64 t9))] [] (soft_ToInt.R t10) [] ∧ True) ∧ ((t7 == (1 : Int)) = true ∧ ((t7 == (1 : Int)) = true ∧ ((t7 == (1 : Int)) = true ∧ (True) ∧ ((t7 == (1 : Int)) = true ∧ (∃ t11 : Int, (Fun cfg 26 [.one (.sc (.int .i64 (IntKind.wrap .i64 (t1 + t2))))] [] (halterlaw02_bounded.R t11) [] ∧ True) ∧ ((t7 == (1 : Int)) = true ∧ (True) ∧ ((t7 == (1 : Int)) = true ∧ (((t10 == t11) = true → ((t10 == t11) = true ∧ ((t10 == t11) = true ∧ (∃ t13 : Int, (Fun cfg 18 [.one (.sc (.int .u64 t3)), .one (.sc (.int .u64 t4))] [] (soft_Sub.R t13) [] ∧ True) ∧ ((t10 == t11) = true ∧ (∃ t14 : Int, (Fun cfg 25 [.one (.sc (.int .u64 t13))] [] (soft_ToInt.R t14) [] ∧ True) ∧ ((t10 == t11) = true ∧ ((t10 == t11) = true ∧ ((t10 == t11) = true ∧ (True) ∧ ((t10 == t11) = true ∧ (∃ t15 : Int, (Fun cfg 26 [.one (.sc (.int .i64 (IntKind.wrap .i64 (t1 - t2))))] [] (halterlaw02_bounded.R t15) [] ∧ True) ∧ ((t10 == t11) = true ∧ (True) ∧ ((t10 == t11) = true ∧ (((t14 == t15) = true → (∃ t17 : Bool, (Fun cfg 15 [] [] (halterlaw02_sure.R t17) [] ∧ True) ∧ ((t14 == t15) = true ∧ (True ∧ ((True) ∧ (True) ∧ (.v (.one (.sc (.bool t17))) : Tm) = halterlaw02_SoftInts.R r ∧ ([] : List Box) = []))))) ∧ ((t14 == t15) = false → ((t14 == t15) = false ∧ (True ∧ ((True) ∧ (True) ∧ (.v (.one (.sc (.bool false))) : Tm) = halterlaw02_SoftInts.R r ∧ ([] : List Box) = [])))))))))))))))))) ∧ ((t10 == t11) = false → ((t10 == t11) = false ∧ ((t10 == t11) = false ∧ ((t10 == t11) = false ∧ ((t10 == t11) = false ∧ ((t10 == t11) = false ∧ ((t10 == t11) = false ∧ ((t10 == t11) = false ∧ ((t10 == t11) = false ∧ ((t10 == t11) = false ∧ (false = false ∧ (false = false ∧ (True ∧ ((True) ∧ (True) ∧ (.v (.one (.sc (.bool false))) : Tm) = halterlaw02_SoftInts.R r ∧ ([] : List Box) = [])))))))))))))))))))))))))))) ∧ ((t7 == (1 : Int)) = false → ((t7 == (1 : Int)) = false ∧ ((t7 == (1 : Int)) = false ∧ ((t7 == (1 : Int)) = false ∧ ((t7 == (1 : Int)) = false ∧ ((t7 == (1 : Int)) = false ∧ ((t7 == (1 : Int)) = false ∧ ((t7 == (1 : Int)) = false ∧ ((t7 == (1 : Int)) = false ∧ ((t7 == (1 : Int)) = false ∧ (false = false ∧ (false = false ∧ (false = false ∧ (false = false ∧ (false = false ∧ (false = false ∧ (false = false ∧ (false = false ∧ (false = false ∧ (false = false ∧ (false = false ∧ (false = false ∧ (True ∧ ((True) ∧ (True) ∧ (.v (.one (.sc (.bool false))) : Tm) = halterlaw02_SoftInts.R r ∧ ([] : List Box) = []))))))))))))))))))))))))))) ∧ ((decide (t1 > t2)) = false → (∃ t18 : Int, (Fun cfg 24 [.one (.sc (.int .u64 t3)), .one (.sc (.int .u64 t4))] [] (soft_Cmp.R t18) [] ∧ True) ∧ (True) ∧ (((t18 == (-1 : Int)) = true → ((t18 == (-1 : Int)) = true ∧ ((t18 == (-1 : Int)) = true ∧ (∃ t20 : Int, (Fun cfg 16 [.one (.sc (.int .u64 t3)), .one (.sc (.int .u64 t4))] [] (soft_Add.R t20) [] ∧ True) ∧ ((t18 == (-1 : Int)) = true ∧ (∃ t21 : Int, (Fun cfg 25 [.one (.sc (.int .u64 t20))] [] (soft_ToInt.R t21) [] ∧ True) ∧ ((t18 == (-1 : Int)) = true ∧ ((t18 == (-1 : Int)) = true ∧ ((t18 == (-1 : Int)) = true ∧ (True) ∧ ((t18 == (-1 : Int)) = true ∧ (∃ t22 : Int, (Fun cfg 26 [.one (.sc (.int .i64 (IntKind.wrap .i64 (t1 + t2))))] [] (halterlaw02_bounded.R t22) [] ∧ True) ∧ ((t18 == (-1 : Int)) = true ∧ (True) ∧ ((t18 == (-1 : Int)) = true ∧ (((t21 == t22) = true → ((t21 == t22) = true ∧ ((t21 == t22) = true ∧ (∃ t24 : Int, (Fun cfg 18 [.one (.sc (.int .u64 t3)), .one (.sc (.int .u64 t4))] [] (soft_Sub.R t24) [] ∧ True) ∧ ((t21 == t22) = true ∧ (∃ t25 : Int, (Fun cfg 25 [.one (.sc (.int .u64 t24))] [] (soft_ToInt.R t25) [] ∧ True) ∧ ((t21 == t22) = true ∧ ((t21 == t22) = true ∧ ((t21 == t22) = true ∧ (True) ∧ ((t21 == t22) = true ∧ (∃ t26 : Int, (Fun cfg 26 [.one (.sc (.int .i64 (IntKind.wrap .i64 (t1 - t2))))] [] (halterlaw02_bounded.R t26) [] ∧ True) ∧ ((t21 == t22) = true ∧ (True) ∧ ((t21 == t22) = true ∧ (((t25 == t26) = true → (∃ t28 : Bool, (Fun cfg 15 [] [] (halterlaw02_sure.R t28) [] ∧ True) ∧ ((t25 == t26) = true ∧ (True ∧ ((True) ∧ (True) ∧ (.v (.one (.sc (.bool t28))) : Tm) = halterlaw02_SoftInts.R r ∧ ([] : List Box) = []))))) ∧ ((t25 == t26) = false → ((t25 == t26) = false ∧ (True ∧ ((True) ∧ (True) ∧ (.v (.one (.sc (.bool false))) : Tm) = halterlaw02_SoftInts.R r ∧ ([] : List Box) = [])))))))))))))))))) ∧ ((t21 == t22) = false → ((t21 == t22) = false ∧ ((t21 == t22) = false ∧ ((t21 == t22) = false ∧ ((t21 == t22) = false ∧ ((t21 == t22) = false ∧ ((t21 == t22) = false ∧ ((t21 == t22) = false ∧ ((t21 == t22) = false ∧ ((t21 == t22) = false ∧ (false = false ∧ (false = false ∧ (True ∧ ((True) ∧ (True) ∧ (.v (.one (.sc (.bool false))) : Tm) = halterlaw02_SoftInts.R r ∧ ([] : List Box) = [])))))))))))))))))))))))))))) ∧ ((t18 == (-1 : Int)) = false → ((t18 == (-1 : Int)) = false ∧ ((t18 == (-1 : Int)) = false ∧ ((t18 == (-1 : Int)) = false ∧ ((t18 == (-1 : Int)) = false ∧ ((t18 == (-1 : Int)) = false ∧ ((t18 == (-1 : Int)) = false ∧ ((t18 == (-1 : Int)) = false ∧ ((t18 == (-1 : Int)) = false ∧ ((t18 == (-1 : Int)) = false ∧ (false = false ∧ (false = false ∧ (false = false ∧ (false = false ∧ (false = false ∧ (false = false ∧ (false = false ∧ (false = false ∧ (false = false ∧ (false = false ∧ (false = false ∧ (false = false ∧ (True ∧ ((True) ∧ (True) ∧ (.v (.one (.sc (.bool false))) : Tm) = halterlaw02_SoftInts.R r ∧ ([] : List Box) = []))))))))))))))))))))))))))))) ∧ ((decide (t1 < t2)) = false → (True) ∧ (((decide (t1 > t2)) = true → (∃ t30 : Int, (Fun cfg 24 [.one (.sc (.int .u64 t3)), .one (.sc (.int .u64 t4))] [] (soft_Cmp.R t30) [] ∧ True) ∧ (True) ∧ (((t30 == (1 : Int)) = true → ((t30 == (1 : Int)) = true ∧ ((t30 == (1 : Int)) = true ∧ (∃ t32 : Int, (Fun cfg 16 [.one (.sc (.int .u64 t3)), .one (.sc (.int .u64 t4))] [] (soft_Add.R t32) [] ∧ True) ∧ ((t30 == (1 : Int)) = true ∧ (∃ t33 : Int, (Fun cfg 25 [.one (.sc (.int .u64 t32))] [] (soft_ToInt.R t33) [] ∧ True) ∧ ((t30 == (1 : Int)) = true ∧ ((t30 == (1 : Int)) = true ∧ ((t30 == (1 : Int)) = true ∧ (True) ∧ ((t30 == (1 : Int)) = true ∧ (∃ t34 : Int, (Fun cfg 26 [.one (.sc (.int .i64 (IntKind.wrap .i64 (t1 + t2))))] [] (halterlaw02_bounded.R t34) [] ∧ True) ∧ ((t30 == (1 : Int)) = true ∧ (True) ∧ ((t30 == (1 : Int)) = true ∧ (((t33 == t34) = true → ((t33 == t34) = true ∧ ((t33 == t34) = true ∧ (∃ t36 : Int, (Fun cfg 18 [.one (.sc (.int .u64 t3)), .one (.sc (.int .u64 t4))] [] (soft_Sub.R t36) [] ∧ True) ∧ ((t33 == t34) = true ∧ (∃ t37 : Int, (Fun cfg 25 [.one (.sc (.int .u64 t36))] [] (soft_ToInt.R t37) [] ∧ True) ∧ ((t33 == t34) = true ∧ ((t33 == t34) = true ∧ ((t33 == t34) = true ∧ (True) ∧ ((t33 == t34) = true ∧ (∃ t38 : Int, (Fun cfg 26 [.one (.sc (.int .i64 (IntKind.wrap .i64 (t1 - t2))))] [] (halterlaw02_bounded.R t38) [] ∧ True) ∧ ((t33 == t34) = true ∧ (True) ∧ ((t33 == t34) = true ∧ (((t37 == t38) = true → (∃ t40 : Bool, (Fun cfg 15 [] [] (halterlaw02_sure.R t40) [] ∧ True) ∧ ((t37 == t38) = true ∧ (True ∧ ((True) ∧ (True) ∧ (.v (.one (.sc (.bool t40))) : Tm) = halterlaw02_SoftInts.R r ∧ ([] : List Box) = []))))) ∧ ((t37 == t38) = false → ((t37 == t38) = false ∧ (True ∧ ((True) ∧ (True) ∧ (.v (.one (.sc (.bool false))) : Tm) = halterlaw02_SoftInts.R r ∧ ([] : List Box) = [])))))))))))))))))) ∧ ((t33 == t34) = false → ((t33 == t34) = false ∧ ((t33 == t34) = false ∧ ((t33 == t34) = false ∧ ((t33 == t34) = false ∧ ((t33 == t34) = false ∧ ((t33 == t34) = false ∧ ((t33 == t34) = false ∧ ((t33 == t34) = false ∧ ((t33 == t34) = false ∧ (false = false ∧ (false = false ∧ (True ∧ ((True) ∧ (True) ∧ (.v (.one (.sc (.bool false))) : Tm) = halterlaw02_SoftInts.R r ∧ ([] : List Box) = [])))))))))))))))))))))))))))) ∧ ((t30 == (1 : Int)) = false → ((t30 == (1 : Int)) = false ∧ ((t30 == (1 : Int)) = false ∧ ((t30 == (1 : Int)) = false ∧ ((t30 == (1 : Int)) = false ∧ ((t30 == (1 : Int)) = false ∧ ((t30 == (1 : Int)) = false ∧ ((t30 == (1 : Int)) = false ∧ ((t30 == (1 : Int)) = false ∧ ((t30 == (1 : Int)) = false ∧ (false = false ∧ (false = false ∧ (false = false ∧ (false = false ∧ (false = false ∧ (false = false ∧ (false = false ∧ (false = false ∧ (false = false ∧ (false = false ∧ (false = false ∧ (false = false ∧ (True ∧ ((True) ∧ (True) ∧ (.v (.one (.sc (.bool false))) : Tm) = halterlaw02_SoftInts.R r ∧ ([] : List Box) = []))))))))))))))))))))))))))) ∧ ((decide (t1 > t2)) = false → (∃ t41 : Int, (Fun cfg 24 [.one (.sc (.int .u64 t3)), .one (.sc (.int .u64 t4))] [] (soft_Cmp.R t41) [] ∧ True) ∧ (True) ∧ (((t41 == (0 : Int)) = true → ((t41 == (0 : Int)) = true ∧ ((t41 == (0 : Int)) = true ∧ (∃ t43 : Int, (Fun cfg 16 [.one (.sc (.int .u64 t3)), .one (.sc (.int .u64 t4))] [] (soft_Add.R t43) [] ∧ True) ∧ ((t41 == (0 : Int)) = true ∧ (∃ t44 : Int, (Fun cfg 25 [.one (.sc (.int .u64 t43))] [] (soft_ToInt.R t44) [] ∧ True) ∧ ((t41 == (0 : Int)) = true ∧ ((t41 == (0 : Int)) = true ∧ ((t41 == (0 : Int)) = true ∧ (True) ∧ ((t41 == (0 : Int)) = true ∧ (∃ t45 : Int, (Fun cfg 26 [.one (.sc (.int .i64 (IntKind.wrap .i64 (t1 + t2))))] [] (halterlaw02_bounded.R t45) [] ∧ True) ∧ ((t41 == (0 : Int)) = true ∧ (True) ∧ ((t41 == (0 : Int)) = true ∧ (((t44 == t45) = true → ((t44 == t45) = true ∧ ((t44 == t45) = true ∧ (∃ t47 : Int, (Fun cfg 18 [.one (.sc (.int .u64 t3)), .one (.sc (.int .u64 t4))] [] (soft_Sub.R t47) [] ∧ True) ∧ ((t44 == t45) = true ∧ (∃ t48 : Int, (Fun cfg 25 [.one (.sc (.int .u64 t47))] [] (soft_ToInt.R t48) [] ∧ True) ∧ ((t44 == t45) = true ∧ ((t44 == t45) = true ∧ ((t44 == t45) = true ∧ (True) ∧ ((t44 == t45) = true ∧ (∃ t49 : Int, (Fun cfg 26 [.one (.sc (.int .i64 (IntKind.wrap .i64 (t1 - t2))))] [] (halterlaw02_bounded.R t49) [] ∧ True) ∧ ((t44 == t45) = true ∧ (True) ∧ ((t44 == t45) = true ∧ (((t48 == t49) = true → (∃ t51 : Bool, (Fun cfg 15 [] [] (halterlaw02_sure.R t51) [] ∧ True) ∧ ((t48 == t49) = true ∧ (True ∧ ((True) ∧ (True) ∧ (.v (.one (.sc (.bool t51))) : Tm) = halterlaw02_SoftInts.R r ∧ ([] : List Box) = []))))) ∧ ((t48 == t49) = false → ((t48 == t49) = false ∧ (True ∧ ((True) ∧ (True) ∧ (.v (.one (.sc (.bool false))) : Tm) = halterlaw02_SoftInts.R r ∧ ([] : List Box) = [])))))))))))))))))) ∧ ((t44 == t45) = false → ((t44 == t45) = false ∧ ((t44 == t45) = false ∧ ((t44 == t45) = false ∧ ((t44 == t45) = false ∧ ((t44 == t45) = false ∧ ((t44 == t45) = false ∧ ((t44 == t45) = false ∧ ((t44 == t45) = false ∧ ((t44 == t45) = false ∧ (false = false ∧ (false = false ∧ (True ∧ ((True) ∧ (True) ∧ (.v (.one (.sc (.bool false))) : Tm) = halterlaw02_SoftInts.R r ∧ ([] : List Box) = [])))))))))))))))))))))))))))) ∧ ((t41 == (0 : Int)) = false → ((t41 == (0 : Int)) = false ∧ ((t41 == (0 : Int)) = false ∧ ((t41 == (0 : Int)) = false ∧ ((t41 == (0 : Int)) = false ∧ ((t41 == (0 : Int)) = false ∧ ((t41 == (0 : Int)) = false ∧ ((t41 == (0 : Int)) = false ∧ ((t41 == (0 : Int)) = false ∧ ((t41 == (0 : Int)) = false ∧ (false = false ∧ (false = false ∧ (false = false ∧ (false = false ∧ (false = false ∧ (false = false ∧ (false = false ∧ (false = false ∧ (false = false ∧ (false = false ∧ (false = false ∧ (false = false ∧ (True ∧ ((True) ∧ (True) ∧ (.v (.one (.sc (.bool false))) : Tm) = halterlaw02_SoftInts.R r ∧ ([] : List Box) = []))))))))))))))))))))))))))))))))))) (by kernel_rfl) ?_)
  obtain ⟨t1, ht1, h⟩ := of_bind h
  refine ⟨t1, ⟨halterref01_Sign.fun_ ht1, trivial⟩, ?_⟩
  obtain ⟨t2, ht2, h⟩ := of_bind h
  refine ⟨t2, ⟨halterref01_Sign.fun_ ht2, trivial⟩, ?_⟩
  obtain ⟨t3, ht3, h⟩ := of_bind h
  refine ⟨t3, ⟨soft_FromInt.fun_ ht3, trivial⟩, ?_⟩
  obtain ⟨t4, ht4, h⟩ := of_bind h
  refine ⟨t4, ⟨soft_FromInt.fun_ ht4, trivial⟩, ?_⟩
  refine ⟨trivial, ?_⟩
  refine ⟨fun b5 => ?_, fun b5 => ?_⟩
  · rw [if_pos (of_decide_eq_true b5)] at h
    refine ⟨trivial, ?_⟩
    refine ⟨fun b6 => ?_, fun b6 => ?_⟩
    · rw [if_pos (of_decide_eq_true b6)] at h
      obtain ⟨t7, ht7, h⟩ := of_bind h
      refine ⟨t7, ⟨soft_Cmp.fun_ ht7, trivial⟩, ?_⟩
      refine ⟨trivial, ?_⟩
      refine ⟨fun b8 => ?_, fun b8 => ?_⟩
      · rw [if_pos (beq_t b8)] at h
        refine ⟨b8, ?_⟩
        refine ⟨b8, ?_⟩
        obtain ⟨t9, ht9, h⟩ := of_bind h
        refine ⟨t9, ⟨soft_Add.fun_ ht9, trivial⟩, ?_⟩
        refine ⟨b8, ?_⟩
        obtain ⟨t10, ht10, h⟩ := of_bind h
        refine ⟨t10, ⟨soft_ToInt.fun_ ht10, trivial⟩, ?_⟩
        refine ⟨b8, ?_⟩
        refine ⟨b8, ?_⟩
        refine ⟨b8, ?_⟩
        refine ⟨trivial, ?_⟩
        refine ⟨b8, ?_⟩
        obtain ⟨t11, ht11, h⟩ := of_bind h
        refine ⟨t11, ⟨halterlaw02_bounded.fun_ ht11, trivial⟩, ?_⟩
        refine ⟨b8, ?_⟩
        refine ⟨trivial, ?_⟩
        refine ⟨b8, ?_⟩
        refine ⟨fun b12 => ?_, fun b12 => ?_⟩
        · rw [if_pos (beq_t b12)] at h
          refine ⟨b12, ?_⟩
          refine ⟨b12, ?_⟩
          obtain ⟨t13, ht13, h⟩ := of_bind h
          refine ⟨t13, ⟨soft_Sub.fun_ ht13, trivial⟩, ?_⟩
          refine ⟨b12, ?_⟩
          obtain ⟨t14, ht14, h⟩ := of_bind h
          refine ⟨t14, ⟨soft_ToInt.fun_ ht14, trivial⟩, ?_⟩
          refine ⟨b12, ?_⟩
          refine ⟨b12, ?_⟩
          refine ⟨b12, ?_⟩
          refine ⟨trivial, ?_⟩
          refine ⟨b12, ?_⟩
          obtain ⟨t15, ht15, h⟩ := of_bind h
          refine ⟨t15, ⟨halterlaw02_bounded.fun_ ht15, trivial⟩, ?_⟩
          refine ⟨b12, ?_⟩
          refine ⟨trivial, ?_⟩
          refine ⟨b12, ?_⟩
          refine ⟨fun b16 => ?_, fun b16 => ?_⟩
          · rw [if_pos (beq_t b16)] at h
            obtain ⟨t17, ht17, h⟩ := of_bind h
            refine ⟨t17, ⟨halterlaw02_sure.fun_ ht17, trivial⟩, ?_⟩
            refine ⟨b16, ?_⟩
            refine ⟨trivial, ?_⟩
            obtain rfl := Option.some.inj h
            exact ⟨trivial, trivial, rfl, rfl⟩
          · rw [if_neg (beq_f b16)] at h
            refine ⟨b16, ?_⟩
            refine ⟨trivial, ?_⟩
            obtain rfl := Option.some.inj h
            exact ⟨trivial, trivial, rfl, rfl⟩
        · rw [if_neg (beq_f b12)] at h
          refine ⟨b12, ?_⟩
          refine ⟨b12, ?_⟩
          refine ⟨b12, ?_⟩
          refine ⟨b12, ?_⟩
          refine ⟨b12, ?_⟩
          refine ⟨b12, ?_⟩
          refine ⟨b12, ?_⟩
          refine ⟨b12, ?_⟩
          refine ⟨b12, ?_⟩
          refine ⟨rfl, ?_⟩
          refine ⟨rfl, ?_⟩
          refine ⟨trivial, ?_⟩
          obtain rfl := Option.some.inj h
          exact ⟨trivial, trivial, rfl, rfl⟩
      · rw [if_neg (beq_f b8)] at h
        refine ⟨b8, ?_⟩
        refine ⟨b8, ?_⟩
        refine ⟨b8, ?_⟩
        refine ⟨b8, ?_⟩
        refine ⟨b8, ?_⟩
        refine ⟨b8, ?_⟩
        refine ⟨b8, ?_⟩
        refine ⟨b8, ?_⟩
        refine ⟨b8, ?_⟩
        refine ⟨rfl, ?_⟩
        refine ⟨rfl, ?_⟩
        refine ⟨rfl, ?_⟩
        refine ⟨rfl, ?_⟩
        refine ⟨rfl, ?_⟩
        refine ⟨rfl, ?_⟩
        refine ⟨rfl, ?_⟩
        refine ⟨rfl, ?_⟩
        refine ⟨rfl, ?_⟩
        refine ⟨rfl, ?_⟩
        refine ⟨rfl, ?_⟩
        refine ⟨rfl, ?_⟩
        refine ⟨trivial, ?_⟩
        obtain rfl := Option.some.inj h
        exact ⟨trivial, trivial, rfl, rfl⟩
    · rw [if_neg (of_decide_eq_false b6)] at h
      obtain ⟨t18, ht18, h⟩ := of_bind h
      refine ⟨t18, ⟨soft_Cmp.fun_ ht18, trivial⟩, ?_⟩
      refine ⟨trivial, ?_⟩
      refine ⟨fun b19 => ?_, fun b19 => ?_⟩
      · rw [if_pos (beq_t b19)] at h
        refine ⟨b19, ?_⟩
        refine ⟨b19, ?_⟩
        obtain ⟨t20, ht20, h⟩ := of_bind h
        refine ⟨t20, ⟨soft_Add.fun_ ht20, trivial⟩, ?_⟩
        refine ⟨b19, ?_⟩
        obtain ⟨t21, ht21, h⟩ := of_bind h
        refine ⟨t21, ⟨soft_ToInt.fun_ ht21, trivial⟩, ?_⟩
        refine ⟨b19, ?_⟩
        refine ⟨b19, ?_⟩
        refine ⟨b19, ?_⟩
        refine ⟨trivial, ?_⟩
        refine ⟨b19, ?_⟩
        obtain ⟨t22, ht22, h⟩ := of_bind h
        refine ⟨t22, ⟨halterlaw02_bounded.fun_ ht22, trivial⟩, ?_⟩
        refine ⟨b19, ?_⟩
        refine ⟨trivial, ?_⟩
        refine ⟨b19, ?_⟩
        refine ⟨fun b23 => ?_, fun b23 => ?_⟩
        · rw [if_pos (beq_t b23)] at h
          refine ⟨b23, ?_⟩
          refine ⟨b23, ?_⟩
          obtain ⟨t24, ht24, h⟩ := of_bind h
          refine ⟨t24, ⟨soft_Sub.fun_ ht24, trivial⟩, ?_⟩
          refine ⟨b23, ?_⟩
          obtain ⟨t25, ht25, h⟩ := of_bind h
          refine ⟨t25, ⟨soft_ToInt.fun_ ht25, trivial⟩, ?_⟩
          refine ⟨b23, ?_⟩
          refine ⟨b23, ?_⟩
          refine ⟨b23, ?_⟩
          refine ⟨trivial, ?_⟩
          refine ⟨b23, ?_⟩
          obtain ⟨t26, ht26, h⟩ := of_bind h
          refine ⟨t26, ⟨halterlaw02_bounded.fun_ ht26, trivial⟩, ?_⟩
          refine ⟨b23, ?_⟩
          refine ⟨trivial, ?_⟩
          refine ⟨b23, ?_⟩
          refine ⟨fun b27 => ?_, fun b27 => ?_⟩
          · rw [if_pos (beq_t b27)] at h
            obtain ⟨t28, ht28, h⟩ := of_bind h
            refine ⟨t28, ⟨halterlaw02_sure.fun_ ht28, trivial⟩, ?_⟩
            refine ⟨b27, ?_⟩
            refine ⟨trivial, ?_⟩
            obtain rfl := Option.some.inj h
            exact ⟨trivial, trivial, rfl, rfl⟩
          · rw [if_neg (beq_f b27)] at h
            refine ⟨b27, ?_⟩
            refine ⟨trivial, ?_⟩
            obtain rfl := Option.some.inj h
            exact ⟨trivial, trivial, rfl, rfl⟩
        · rw [if_neg (beq_f b23)] at h
          refine ⟨b23, ?_⟩
          refine ⟨b23, ?_⟩
          refine ⟨b23, ?_⟩
          refine ⟨b23, ?_⟩
          refine ⟨b23, ?_⟩
          refine ⟨b23, ?_⟩
          refine ⟨b23, ?_⟩
          refine ⟨b23, ?_⟩
          refine ⟨b23, ?_⟩
          refine ⟨rfl, ?_⟩
          refine ⟨rfl, ?_⟩
          refine ⟨trivial, ?_⟩
          obtain rfl := Option.some.inj h
          exact ⟨trivial, trivial, rfl, rfl⟩
      · rw [if_neg (beq_f b19)] at h
        refine ⟨b19, ?_⟩
        refine ⟨b19, ?_⟩
        refine ⟨b19, ?_⟩
        refine ⟨b19, ?_⟩
        refine ⟨b19, ?_⟩
        refine ⟨b19, ?_⟩
        refine ⟨b19, ?_⟩
        refine ⟨b19, ?_⟩
        refine ⟨b19, ?_⟩
        refine ⟨rfl, ?_⟩
        refine ⟨rfl, ?_⟩
        refine ⟨rfl, ?_⟩
        refine ⟨rfl, ?_⟩
        refine ⟨rfl, ?_⟩
        refine ⟨rfl, ?_⟩
        refine ⟨rfl, ?_⟩
        refine ⟨rfl, ?_⟩
        refine ⟨rfl, ?_⟩
        refine ⟨rfl, ?_⟩
        refine ⟨rfl, ?_⟩
        refine ⟨rfl, ?_⟩
        refine ⟨trivial, ?_⟩
        obtain rfl := Option.some.inj h
        exact ⟨trivial, trivial, rfl, rfl⟩
  · rw [if_neg (of_decide_eq_false b5)] at h
    refine ⟨trivial, ?_⟩
    refine ⟨fun b29 => ?_, fun b29 => ?_⟩
    · rw [if_pos (of_decide_eq_true b29)] at h
      obtain ⟨t30, ht30, h⟩ := of_bind h
      refine ⟨t30, ⟨soft_Cmp.fun_ ht30, trivial⟩, ?_⟩
      refine ⟨trivial, ?_⟩
      refine ⟨fun b31 => ?_, fun b31 => ?_⟩
      · rw [if_pos (beq_t b31)] at h
        refine ⟨b31, ?_⟩
        refine ⟨b31, ?_⟩
        obtain ⟨t32, ht32, h⟩ := of_bind h
        refine ⟨t32, ⟨soft_Add.fun_ ht32, trivial⟩, ?_⟩
        refine ⟨b31, ?_⟩
        obtain ⟨t33, ht33, h⟩ := of_bind h
        refine ⟨t33, ⟨soft_ToInt.fun_ ht33, trivial⟩, ?_⟩
        refine ⟨b31, ?_⟩
        refine ⟨b31, ?_⟩
        refine ⟨b31, ?_⟩
        refine ⟨trivial, ?_⟩
        refine ⟨b31, ?_⟩
        obtain ⟨t34, ht34, h⟩ := of_bind h
        refine ⟨t34, ⟨halterlaw02_bounded.fun_ ht34, trivial⟩, ?_⟩
        refine ⟨b31, ?_⟩
        refine ⟨trivial, ?_⟩
        refine ⟨b31, ?_⟩
        refine ⟨fun b35 => ?_, fun b35 => ?_⟩
        · rw [if_pos (beq_t b35)] at h
          refine ⟨b35, ?_⟩
          refine ⟨b35, ?_⟩
          obtain ⟨t36, ht36, h⟩ := of_bind h
          refine ⟨t36, ⟨soft_Sub.fun_ ht36, trivial⟩, ?_⟩
          refine ⟨b35, ?_⟩
          obtain ⟨t37, ht37, h⟩ := of_bind h
          refine ⟨t37, ⟨soft_ToInt.fun_ ht37, trivial⟩, ?_⟩
          refine ⟨b35, ?_⟩
          refine ⟨b35, ?_⟩
          refine ⟨b35, ?_⟩
          refine ⟨trivial, ?_⟩
          refine ⟨b35, ?_⟩
          obtain ⟨t38, ht38, h⟩ := of_bind h
          refine ⟨t38, ⟨halterlaw02_bounded.fun_ ht38, trivial⟩, ?_⟩
          refine ⟨b35, ?_⟩
          refine ⟨trivial, ?_⟩
          refine ⟨b35, ?_⟩
          refine ⟨fun b39 => ?_, fun b39 => ?_⟩
          · rw [if_pos (beq_t b39)] at h
            obtain ⟨t40, ht40, h⟩ := of_bind h
            refine ⟨t40, ⟨halterlaw02_sure.fun_ ht40, trivial⟩, ?_⟩
            refine ⟨b39, ?_⟩
            refine ⟨trivial, ?_⟩
            obtain rfl := Option.some.inj h
            exact ⟨trivial, trivial, rfl, rfl⟩
          · rw [if_neg (beq_f b39)] at h
            refine ⟨b39, ?_⟩
            refine ⟨trivial, ?_⟩
            obtain rfl := Option.some.inj h
            exact ⟨trivial, trivial, rfl, rfl⟩
        · rw [if_neg (beq_f b35)] at h
          refine ⟨b35, ?_⟩
          refine ⟨b35, ?_⟩
          refine ⟨b35, ?_⟩
          refine ⟨b35, ?_⟩
          refine ⟨b35, ?_⟩
          refine ⟨b35, ?_⟩
          refine ⟨b35, ?_⟩
          refine ⟨b35, ?_⟩
          refine ⟨b35, ?_⟩
          refine ⟨rfl, ?_⟩
          refine ⟨rfl, ?_⟩
          refine ⟨trivial, ?_⟩
          obtain rfl := Option.some.inj h
          exact ⟨trivial, trivial, rfl, rfl⟩
      · rw [if_neg (beq_f b31)] at h
        refine ⟨b31, ?_⟩
        refine ⟨b31, ?_⟩
        refine ⟨b31, ?_⟩
        refine ⟨b31, ?_⟩
        refine ⟨b31, ?_⟩
        refine ⟨b31, ?_⟩
        refine ⟨b31, ?_⟩
        refine ⟨b31, ?_⟩
        refine ⟨b31, ?_⟩
        refine ⟨rfl, ?_⟩
        refine ⟨rfl, ?_⟩
        refine ⟨rfl, ?_⟩
        refine ⟨rfl, ?_⟩
        refine ⟨rfl, ?_⟩
        refine ⟨rfl, ?_⟩
        refine ⟨rfl, ?_⟩
        refine ⟨rfl, ?_⟩
        refine ⟨rfl, ?_⟩
        refine ⟨rfl, ?_⟩
        refine ⟨rfl, ?_⟩
        refine ⟨rfl, ?_⟩
        refine ⟨trivial, ?_⟩
        obtain rfl := Option.some.inj h
        exact ⟨trivial, trivial, rfl, rfl⟩
    · rw [if_neg (of_decide_eq_false b29)] at h
      obtain ⟨t41, ht41, h⟩ := of_bind h
      refine ⟨t41, ⟨soft_Cmp.fun_ ht41, trivial⟩, ?_⟩
      refine ⟨trivial, ?_⟩
      refine ⟨fun b42 => ?_, fun b42 => ?_⟩
      · rw [if_pos (beq_t b42)] at h
        refine ⟨b42, ?_⟩
        refine ⟨b42, ?_⟩
        obtain ⟨t43, ht43, h⟩ := of_bind h
        refine ⟨t43, ⟨soft_Add.fun_ ht43, trivial⟩, ?_⟩
        refine ⟨b42, ?_⟩
        obtain ⟨t44, ht44, h⟩ := of_bind h
        refine ⟨t44, ⟨soft_ToInt.fun_ ht44, trivial⟩, ?_⟩
        refine ⟨b42, ?_⟩
        refine ⟨b42, ?_⟩
        refine ⟨b42, ?_⟩
        refine ⟨trivial, ?_⟩
        refine ⟨b42, ?_⟩
        obtain ⟨t45, ht45, h⟩ := of_bind h
        refine ⟨t45, ⟨halterlaw02_bounded.fun_ ht45, trivial⟩, ?_⟩
        refine ⟨b42, ?_⟩
        refine ⟨trivial, ?_⟩
        refine ⟨b42, ?_⟩
        refine ⟨fun b46 => ?_, fun b46 => ?_⟩
        · rw [if_pos (beq_t b46)] at h
          refine ⟨b46, ?_⟩
          refine ⟨b46, ?_⟩
          obtain ⟨t47, ht47, h⟩ := of_bind h
          refine ⟨t47, ⟨soft_Sub.fun_ ht47, trivial⟩, ?_⟩
          refine ⟨b46, ?_⟩
          obtain ⟨t48, ht48, h⟩ := of_bind h
          refine ⟨t48, ⟨soft_ToInt.fun_ ht48, trivial⟩, ?_⟩
          refine ⟨b46, ?_⟩
          refine ⟨b46, ?_⟩
          refine ⟨b46, ?_⟩
          refine ⟨trivial, ?_⟩
          refine ⟨b46, ?_⟩
          obtain ⟨t49, ht49, h⟩ := of_bind h
          refine ⟨t49, ⟨halterlaw02_bounded.fun_ ht49, trivial⟩, ?_⟩
          refine ⟨b46, ?_⟩
          refine ⟨trivial, ?_⟩
          refine ⟨b46, ?_⟩
          refine ⟨fun b50 => ?_, fun b50 => ?_⟩
          · rw [if_pos (beq_t b50)] at h
            obtain ⟨t51, ht51, h⟩ := of_bind h
            refine ⟨t51, ⟨halterlaw02_sure.fun_ ht51, trivial⟩, ?_⟩
            refine ⟨b50, ?_⟩
            refine ⟨trivial, ?_⟩
            obtain rfl := Option.some.inj h
            exact ⟨trivial, trivial, rfl, rfl⟩
          · rw [if_neg (beq_f b50)] at h
            refine ⟨b50, ?_⟩
            refine ⟨trivial, ?_⟩
            obtain rfl := Option.some.inj h
            exact ⟨trivial, trivial, rfl, rfl⟩
        · rw [if_neg (beq_f b46)] at h
          refine ⟨b46, ?_⟩
          refine ⟨b46, ?_⟩
          refine ⟨b46, ?_⟩
          refine ⟨b46, ?_⟩
          refine ⟨b46, ?_⟩
          refine ⟨b46, ?_⟩
          refine ⟨b46, ?_⟩
          refine ⟨b46, ?_⟩
          refine ⟨b46, ?_⟩
          refine ⟨rfl, ?_⟩
          refine ⟨rfl, ?_⟩
          refine ⟨trivial, ?_⟩
          obtain rfl := Option.some.inj h
          exact ⟨trivial, trivial, rfl, rfl⟩
      · rw [if_neg (beq_f b42)] at h
        refine ⟨b42, ?_⟩
        refine ⟨b42, ?_⟩
        refine ⟨b42, ?_⟩
        refine ⟨b42, ?_⟩
        refine ⟨b42, ?_⟩
        refine ⟨b42, ?_⟩
        refine ⟨b42, ?_⟩
        refine ⟨b42, ?_⟩
        refine ⟨b42, ?_⟩
        refine ⟨rfl, ?_⟩
        refine ⟨rfl, ?_⟩
        refine ⟨rfl, ?_⟩
        refine ⟨rfl, ?_⟩
        refine ⟨rfl, ?_⟩
        refine ⟨rfl, ?_⟩
        refine ⟨rfl, ?_⟩
        refine ⟨rfl, ?_⟩
        refine ⟨rfl, ?_⟩
        refine ⟨rfl, ?_⟩
        refine ⟨rfl, ?_⟩
        refine ⟨rfl, ?_⟩
        refine ⟨trivial, ?_⟩
        obtain rfl := Option.some.inj h
        exact ⟨trivial, trivial, rfl, rfl⟩
end Go.Proofs.YtkaehhfdjenmcaaGSoftInts
