/- Printed by gen.py: what functions of the program compute, in plain Lean, and that they do. -/
import Derived.Test.YtkaehhfdjenmcaaE15
import Derived.Test.YtkaehhfdjenmcaaProg
import Derived.Test.YtkaehhfdjenmcaaF
set_option linter.unusedVariables false
set_option maxRecDepth 100000
set_option maxHeartbeats 4000000
namespace Go.Proofs.YtkaehhfdjenmcaaGSoftParts
open Go Go.Proofs.YtkaehhfdjenmcaaE
def tiL : List (Nat × TI) := [
  (3, ⟨1, 8, false, .int .i64, [.c (.sc (.int .i64 (0 : Int)))], some (.int .i64)⟩),
  (4, ⟨1, 1, false, .bool, [.c (.sc (.bool false))], some .bool⟩),
  (22, ⟨1, 8, false, .int .u64, [.c (.sc (.int .u64 (0 : Int)))], some (.int .u64)⟩),
  (28, ⟨1, 4, false, .int .u32, [.c (.sc (.int .u32 (0 : Int)))], some (.int .u32)⟩),
  (44, ⟨4, 32, true, (.struct [(0, 4), (1, 22), (2, 3), (3, 4)]), [.c (.sc (.bool false)), .c (.sc (.int .u64 (0 : Int))), .c (.sc (.int .i64 (0 : Int))), .c (.sc (.bool false))], some (.pair .bool (.pair (.int .u64) (.pair (.int .i64) .bool)))⟩)]
def tabs : List (Nat × IntKind × List Int) := []
noncomputable def cfg : Cfg := ⟨Try.prog, 0, [] ++ tabs.flatMap tabG, tiL, [], tabs⟩
theorem cfg_ok : COk cfg := by
  refine ⟨fun p hp => ?_, by kernel_rfl, fun p hp => ?_, fun t ht => ?_, fun x hx y hy => List.mem_append_right _ (List.mem_flatMap.2 ⟨x, hx, hy⟩)⟩
  · simp only [cfg, tiL, List.mem_cons, List.not_mem_nil, or_false] at hp
    rcases hp with rfl | rfl | rfl | rfl | rfl <;> exact ⟨by kernel_rfl, by kernel_rfl, by kernel_rfl, by kernel_rfl, by kernel_rfl, by kernel_rfl⟩
  · simp only [cfg, tiL, List.mem_cons, List.not_mem_nil, or_false] at hp
    rcases hp with rfl | rfl | rfl | rfl | rfl <;> intro fs hfs bl hbl
    · cases hfs
    · cases hfs
    · cases hfs
    · cases hfs
    · cases hfs
      have e : fieldsZ cfg.L 0 [(0, 4), (1, 22), (2, 3), (3, 4)] = some [[.c (.sc (.bool false))], [.c (.sc (.int .u64 (0 : Int)))], [.c (.sc (.int .i64 (0 : Int)))], [.c (.sc (.bool false))]] := by kernel_rfl
      rw [e] at hbl
      cases hbl
      exact (by kernel_rfl : encPs (List.flatten [[.c (.sc (.bool false))], [.c (.sc (.int .u64 (0 : Int)))], [.c (.sc (.int .i64 (0 : Int)))], [.c (.sc (.bool false))]]) = encPs [.c (.sc (.bool false)), .c (.sc (.int .u64 (0 : Int))), .c (.sc (.int .i64 (0 : Int))), .c (.sc (.bool false))])
  · cases ht
def fin : Scr → List Adj
  | .adj l _ => l
  | _ => []
/-! halter/soft.Add, by hand -/
def soft_Add.f (a0 : Int) (a1 : Int) : Option Int := YtkaehhfdjenmcaaF.soft_Add.f a0 a1
def soft_Add.R (r : Int) : Tm := .v (.one (.sc (.int .u64 r)))
theorem soft_Add.fun_ {a0 a1 r : Int} (h : soft_Add.f a0 a1 = some r) : Fun cfg 16 [.one (.sc (.int .u64 a0)), .one (.sc (.int .u64 a1))] [] (soft_Add.R r) [] := by
  refine Fun.of_below (f := 16) (fn := Try.f16) Try.func16 rfl (by kernel_rfl) (r := .int .u64 r) (fun X => ⟨⟨rfl, rfl⟩, rfl⟩) fun X vs hE hvs hG => ?_
  obtain ⟨v0, us0, rfl, hv0, v1, us1, rfl, hv1, rfl⟩ := hvs
  have hv0 : v0 = .int .u64 a0 := hv0.1.1
  have hv1 : v1 = .int .u64 a1 := hv1.1.1
  rw [hv0, hv1]
  exact YtkaehhfdjenmcaaF.soft_Add.calls a0 a1 r X.w h
/-! halter/soft.Sub, by hand -/
def soft_Sub.f (a0 : Int) (a1 : Int) : Option Int := YtkaehhfdjenmcaaF.soft_Sub.f a0 a1
def soft_Sub.R (r : Int) : Tm := .v (.one (.sc (.int .u64 r)))
theorem soft_Sub.fun_ {a0 a1 r : Int} (h : soft_Sub.f a0 a1 = some r) : Fun cfg 18 [.one (.sc (.int .u64 a0)), .one (.sc (.int .u64 a1))] [] (soft_Sub.R r) [] := by
  refine Fun.of_below (f := 18) (fn := Try.f18) Try.func18 rfl (by kernel_rfl) (r := .int .u64 r) (fun X => ⟨⟨rfl, rfl⟩, rfl⟩) fun X vs hE hvs hG => ?_
  obtain ⟨v0, us0, rfl, hv0, v1, us1, rfl, hv1, rfl⟩ := hvs
  have hv0 : v0 = .int .u64 a0 := hv0.1.1
  have hv1 : v1 = .int .u64 a1 := hv1.1.1
  rw [hv0, hv1]
  exact YtkaehhfdjenmcaaF.soft_Sub.calls a0 a1 r X.w h
/-! halter/soft.Mul, by hand -/
def soft_Mul.f (a0 : Int) (a1 : Int) : Option Int := YtkaehhfdjenmcaaF.soft_Mul.f a0 a1
def soft_Mul.R (r : Int) : Tm := .v (.one (.sc (.int .u64 r)))
theorem soft_Mul.fun_ {a0 a1 r : Int} (h : soft_Mul.f a0 a1 = some r) : Fun cfg 9 [.one (.sc (.int .u64 a0)), .one (.sc (.int .u64 a1))] [] (soft_Mul.R r) [] := by
  refine Fun.of_below (f := 9) (fn := Try.f9) Try.func9 rfl (by kernel_rfl) (r := .int .u64 r) (fun X => ⟨⟨rfl, rfl⟩, rfl⟩) fun X vs hE hvs hG => ?_
  obtain ⟨v0, us0, rfl, hv0, v1, us1, rfl, hv1, rfl⟩ := hvs
  have hv0 : v0 = .int .u64 a0 := hv0.1.1
  have hv1 : v1 = .int .u64 a1 := hv1.1.1
  rw [hv0, hv1]
  exact YtkaehhfdjenmcaaF.soft_Mul.calls a0 a1 r X.w h
/-! halter/soft.Div, by hand -/
def soft_Div.f (a0 : Int) (a1 : Int) : Option Int := YtkaehhfdjenmcaaF.soft_Div.f a0 a1
def soft_Div.R (r : Int) : Tm := .v (.one (.sc (.int .u64 r)))
theorem soft_Div.fun_ {a0 a1 r : Int} (h : soft_Div.f a0 a1 = some r) : Fun cfg 11 [.one (.sc (.int .u64 a0)), .one (.sc (.int .u64 a1))] [] (soft_Div.R r) [] := by
  refine Fun.of_below (f := 11) (fn := Try.f11) Try.func11 rfl (by kernel_rfl) (r := .int .u64 r) (fun X => ⟨⟨rfl, rfl⟩, rfl⟩) fun X vs hE hvs hG => ?_
  obtain ⟨v0, us0, rfl, hv0, v1, us1, rfl, hv1, rfl⟩ := hvs
  have hv0 : v0 = .int .u64 a0 := hv0.1.1
  have hv1 : v1 = .int .u64 a1 := hv1.1.1
  rw [hv0, hv1]
  exact YtkaehhfdjenmcaaF.soft_Div.calls a0 a1 r X.w h
/-! halter/soft.Cmp, by hand -/
def soft_Cmp.f (a0 : Int) (a1 : Int) : Option Int := YtkaehhfdjenmcaaF.soft_Cmp.f a0 a1
def soft_Cmp.R (r : Int) : Tm := .v (.one (.sc (.int .i64 r)))
theorem soft_Cmp.fun_ {a0 a1 r : Int} (h : soft_Cmp.f a0 a1 = some r) : Fun cfg 24 [.one (.sc (.int .u64 a0)), .one (.sc (.int .u64 a1))] [] (soft_Cmp.R r) [] := by
  refine Fun.of_below (f := 24) (fn := Try.f24) Try.func24 rfl (by kernel_rfl) (r := .int .i64 r) (fun X => ⟨⟨rfl, rfl⟩, rfl⟩) fun X vs hE hvs hG => ?_
  obtain ⟨v0, us0, rfl, hv0, v1, us1, rfl, hv1, rfl⟩ := hvs
  have hv0 : v0 = .int .u64 a0 := hv0.1.1
  have hv1 : v1 = .int .u64 a1 := hv1.1.1
  rw [hv0, hv1]
  exact YtkaehhfdjenmcaaF.soft_Cmp.calls a0 a1 r X.w h
/-! halter/soft.Sqrt, by hand -/
def soft_Sqrt.f (a0 : Int) : Option Int := YtkaehhfdjenmcaaF.soft_Sqrt.f a0
def soft_Sqrt.R (r : Int) : Tm := .v (.one (.sc (.int .u64 r)))
theorem soft_Sqrt.fun_ {a0 r : Int} (h : soft_Sqrt.f a0 = some r) : Fun cfg 13 [.one (.sc (.int .u64 a0))] [] (soft_Sqrt.R r) [] := by
  refine Fun.of_below (f := 13) (fn := Try.f13) Try.func13 rfl (by kernel_rfl) (r := .int .u64 r) (fun X => ⟨⟨rfl, rfl⟩, rfl⟩) fun X vs hE hvs hG => ?_
  obtain ⟨v0, us0, rfl, hv0, rfl⟩ := hvs
  have hv0 : v0 = .int .u64 a0 := hv0.1.1
  rw [hv0]
  exact YtkaehhfdjenmcaaF.soft_Sqrt.calls a0 r X.w h
/-! halter/soft.Min, by hand -/
def soft_Min.f (a0 : Int) (a1 : Int) : Option Int := YtkaehhfdjenmcaaF.soft_Min.f a0 a1
def soft_Min.R (r : Int) : Tm := .v (.one (.sc (.int .u64 r)))
theorem soft_Min.fun_ {a0 a1 r : Int} (h : soft_Min.f a0 a1 = some r) : Fun cfg 28 [.one (.sc (.int .u64 a0)), .one (.sc (.int .u64 a1))] [] (soft_Min.R r) [] := by
  refine Fun.of_below (f := 28) (fn := Try.f28) Try.func28 rfl (by kernel_rfl) (r := .int .u64 r) (fun X => ⟨⟨rfl, rfl⟩, rfl⟩) fun X vs hE hvs hG => ?_
  obtain ⟨v0, us0, rfl, hv0, v1, us1, rfl, hv1, rfl⟩ := hvs
  have hv0 : v0 = .int .u64 a0 := hv0.1.1
  have hv1 : v1 = .int .u64 a1 := hv1.1.1
  rw [hv0, hv1]
  exact YtkaehhfdjenmcaaF.soft_Min.calls a0 a1 r X.w h
/-! halter/soft.Max, by hand -/
def soft_Max.f (a0 : Int) (a1 : Int) : Option Int := YtkaehhfdjenmcaaF.soft_Max.f a0 a1
def soft_Max.R (r : Int) : Tm := .v (.one (.sc (.int .u64 r)))
theorem soft_Max.fun_ {a0 a1 r : Int} (h : soft_Max.f a0 a1 = some r) : Fun cfg 30 [.one (.sc (.int .u64 a0)), .one (.sc (.int .u64 a1))] [] (soft_Max.R r) [] := by
  refine Fun.of_below (f := 30) (fn := Try.f30) Try.func30 rfl (by kernel_rfl) (r := .int .u64 r) (fun X => ⟨⟨rfl, rfl⟩, rfl⟩) fun X vs hE hvs hG => ?_
  obtain ⟨v0, us0, rfl, hv0, v1, us1, rfl, hv1, rfl⟩ := hvs
  have hv0 : v0 = .int .u64 a0 := hv0.1.1
  have hv1 : v1 = .int .u64 a1 := hv1.1.1
  rw [hv0, hv1]
  exact YtkaehhfdjenmcaaF.soft_Max.calls a0 a1 r X.w h
/-! halter/soft.FromInt, by hand -/
def soft_FromInt.f (a0 : Int) : Option Int := YtkaehhfdjenmcaaF.soft_FromInt.f a0
def soft_FromInt.R (r : Int) : Tm := .v (.one (.sc (.int .u64 r)))
theorem soft_FromInt.fun_ {a0 r : Int} (h : soft_FromInt.f a0 = some r) : Fun cfg 23 [.one (.sc (.int .u32 a0))] [] (soft_FromInt.R r) [] := by
  refine Fun.of_below (f := 23) (fn := Try.f23) Try.func23 rfl (by kernel_rfl) (r := .int .u64 r) (fun X => ⟨⟨rfl, rfl⟩, rfl⟩) fun X vs hE hvs hG => ?_
  obtain ⟨v0, us0, rfl, hv0, rfl⟩ := hvs
  have hv0 : v0 = .int .u32 a0 := hv0.1.1
  rw [hv0]
  exact YtkaehhfdjenmcaaF.soft_FromInt.calls a0 r X.w h
/-! halter/soft.ToInt, by hand -/
def soft_ToInt.f (a0 : Int) : Option Int := YtkaehhfdjenmcaaF.soft_ToInt.f a0
def soft_ToInt.R (r : Int) : Tm := .v (.one (.sc (.int .u32 r)))
theorem soft_ToInt.fun_ {a0 r : Int} (h : soft_ToInt.f a0 = some r) : Fun cfg 25 [.one (.sc (.int .u64 a0))] [] (soft_ToInt.R r) [] := by
  refine Fun.of_below (f := 25) (fn := Try.f25) Try.func25 rfl (by kernel_rfl) (r := .int .u32 r) (fun X => ⟨⟨rfl, rfl⟩, rfl⟩) fun X vs hE hvs hG => ?_
  obtain ⟨v0, us0, rfl, hv0, rfl⟩ := hvs
  have hv0 : v0 = .int .u64 a0 := hv0.1.1
  rw [hv0]
  exact YtkaehhfdjenmcaaF.soft_ToInt.calls a0 r X.w h
/-! halter/halterref02.Neg -/
def halterref02_Neg.f (a0 : Int) : Option Bool :=
  some (decide (a0 ≥ (9223372036854775808 : Int)))
def halterref02_Neg.R (r : Bool) : Tm := .v (.one (.sc (.bool r)))
theorem halterref02_Neg.fun_ {a0 : Int} {r : Bool} (h : halterref02_Neg.f a0 = some r) : Fun cfg 38 [.one (.sc (.int .u64 a0))] [] (halterref02_Neg.R r) [] := by
  unfold halterref02_Neg.f at h
  refine fun_of_run cfg_ok (f := 38) (fn := Try.f38) Try.func38 rfl (by kernel_rfl) (rs := [.tmp 2]) rfl (nt := 5) rfl (l := fin) (k := (.adj [] (.adj [] (.adj [] (.adj [] .nil))))) (to_goal (q := (True ∧ (True ∧ (True) ∧ (True ∧ ((True) ∧ (True) ∧ (.v (.one (.sc (.bool (decide (a0 ≥ (9223372036854775808 : Int)))))) : Tm) = halterref02_Neg.R r ∧ ([] : List Box) = []))))) (by kernel_rfl) ?_)
  refine ⟨trivial, ?_⟩
  refine ⟨trivial, ?_⟩
  refine ⟨trivial, ?_⟩
  refine ⟨trivial, ?_⟩
  obtain rfl := Option.some.inj h
  exact ⟨trivial, trivial, rfl, rfl⟩
/-! halter/halterref02.Class -/
def halterref02_Class.f (a0 : Int) : Option Int :=
  if (Int.tmod (IntKind.wrap .u64 (Int.tdiv a0 (4503599627370496 : Int))) (2048 : Int)) = (2047 : Int) then
    if (Int.tmod a0 (4503599627370496 : Int)) = (0 : Int) then
      some (3 : Int)
    else
      some (4 : Int)
  else
    if (Int.tmod (IntKind.wrap .u64 (Int.tdiv a0 (4503599627370496 : Int))) (2048 : Int)) = (0 : Int) then
      if (Int.tmod a0 (4503599627370496 : Int)) = (0 : Int) then
        some (0 : Int)
      else
        some (1 : Int)
    else
      some (2 : Int)
def halterref02_Class.R (r : Int) : Tm := .v (.one (.sc (.int .i64 r)))
theorem halterref02_Class.fun_ {a0 : Int} {r : Int} (h : halterref02_Class.f a0 = some r) : Fun cfg 21 [.one (.sc (.int .u64 a0))] [] (halterref02_Class.R r) [] := by
  unfold halterref02_Class.f at h
  refine fun_of_run cfg_ok (f := 21) (fn := Try.f21) Try.func21 rfl (by kernel_rfl) (rs := [.tmp 2]) rfl (nt := 22) rfl (l := fin) (k := (.br (.br (.adj [] (.adj [] (.adj [] .nil))) (.adj [] (.adj [] (.adj [] (.adj [] .nil))))) (.br (.one true (.one true (.br (.adj [] (.adj [] (.adj [] .nil))) (.one true (.adj [] (.adj [] (.adj [] .nil))))))) (.one false (.one false (.one false (.one false (.adj [] (.adj [] (.adj [] (.adj [] .nil))))))))))) (to_goal (q := ((4503599627370496 : Int) ≠ 0) ∧ ((2048 : Int) ≠ 0) ∧ ((4503599627370496 : Int) ≠ 0) ∧ (True) ∧ ((((Int.tmod (IntKind.wrap .u64 (Int.tdiv a0 (4503599627370496 : Int))) (2048 : Int)) == (2047 : Int)) = true → (True) ∧ ((((Int.tmod a0 (4503599627370496 : Int)) == (0 : Int)) = true → (True ∧ (True ∧ ((True) ∧ (True) ∧ (.v (.one (.sc (.int .i64 (3 : Int)))) : Tm) = halterref02_Class.R r ∧ ([] : List Box) = [])))) ∧ (((Int.tmod a0 (4503599627370496 : Int)) == (0 : Int)) = false → (True ∧ (True ∧ (True ∧ ((True) ∧ (True) ∧ (.v (.one (.sc (.int .i64 (4 : Int)))) : Tm) = halterref02_Class.R r ∧ ([] : List Box) = []))))))) ∧ (((Int.tmod (IntKind.wrap .u64 (Int.tdiv a0 (4503599627370496 : Int))) (2048 : Int)) == (2047 : Int)) = false → (True) ∧ ((((Int.tmod (IntKind.wrap .u64 (Int.tdiv a0 (4503599627370496 : Int))) (2048 : Int)) == (0 : Int)) = true → (((Int.tmod (IntKind.wrap .u64 (Int.tdiv a0 (4503599627370496 : Int))) (2048 : Int)) == (0 : Int)) = true ∧ (True) ∧ (((Int.tmod (IntKind.wrap .u64 (Int.tdiv a0 (4503599627370496 : Int))) (2048 : Int)) == (0 : Int)) = true ∧ ((((Int.tmod a0 (4503599627370496 : Int)) == (0 : Int)) = true → (True ∧ (True ∧ ((True) ∧ (True) ∧ (.v (.one (.sc (.int .i64 (0 : Int)))) : Tm) = halterref02_Class.R r ∧ ([] : List Box) = [])))) ∧ (((Int.tmod a0 (4503599627370496 : Int)) == (0 : Int)) = false → (True) ∧ (((Int.tmod (IntKind.wrap .u64 (Int.tdiv a0 (4503599627370496 : Int))) (2048 : Int)) == (0 : Int)) = true ∧ (True ∧ (True ∧ ((True) ∧ (True) ∧ (.v (.one (.sc (.int .i64 (1 : Int)))) : Tm) = halterref02_Class.R r ∧ ([] : List Box) = []))))))))) ∧ (((Int.tmod (IntKind.wrap .u64 (Int.tdiv a0 (4503599627370496 : Int))) (2048 : Int)) == (0 : Int)) = false → (((Int.tmod (IntKind.wrap .u64 (Int.tdiv a0 (4503599627370496 : Int))) (2048 : Int)) == (0 : Int)) = false ∧ (((Int.tmod (IntKind.wrap .u64 (Int.tdiv a0 (4503599627370496 : Int))) (2048 : Int)) == (0 : Int)) = false ∧ (false = false ∧ (True) ∧ (((Int.tmod (IntKind.wrap .u64 (Int.tdiv a0 (4503599627370496 : Int))) (2048 : Int)) == (0 : Int)) = false ∧ (True ∧ (True ∧ (True ∧ ((True) ∧ (True) ∧ (.v (.one (.sc (.int .i64 (2 : Int)))) : Tm) = halterref02_Class.R r ∧ ([] : List Box) = []))))))))))))) (by kernel_rfl) ?_)
  refine ⟨(by decide), ?_⟩
  refine ⟨(by decide), ?_⟩
  refine ⟨(by decide), ?_⟩
  refine ⟨trivial, ?_⟩
  refine ⟨fun b1 => ?_, fun b1 => ?_⟩
  · rw [if_pos (beq_t b1)] at h
    refine ⟨trivial, ?_⟩
    refine ⟨fun b2 => ?_, fun b2 => ?_⟩
    · rw [if_pos (beq_t b2)] at h
      refine ⟨trivial, ?_⟩
      refine ⟨trivial, ?_⟩
      obtain rfl := Option.some.inj h
      exact ⟨trivial, trivial, rfl, rfl⟩
    · rw [if_neg (beq_f b2)] at h
      refine ⟨trivial, ?_⟩
      refine ⟨trivial, ?_⟩
      refine ⟨trivial, ?_⟩
      obtain rfl := Option.some.inj h
      exact ⟨trivial, trivial, rfl, rfl⟩
  · rw [if_neg (beq_f b1)] at h
    refine ⟨trivial, ?_⟩
    refine ⟨fun b3 => ?_, fun b3 => ?_⟩
    · rw [if_pos (beq_t b3)] at h
      refine ⟨b3, ?_⟩
      refine ⟨trivial, ?_⟩
      refine ⟨b3, ?_⟩
      refine ⟨fun b4 => ?_, fun b4 => ?_⟩
      · rw [if_pos (beq_t b4)] at h
        refine ⟨trivial, ?_⟩
        refine ⟨trivial, ?_⟩
        obtain rfl := Option.some.inj h
        exact ⟨trivial, trivial, rfl, rfl⟩
      · rw [if_neg (beq_f b4)] at h
        refine ⟨trivial, ?_⟩
        refine ⟨b3, ?_⟩
        refine ⟨trivial, ?_⟩
        refine ⟨trivial, ?_⟩
        obtain rfl := Option.some.inj h
        exact ⟨trivial, trivial, rfl, rfl⟩
    · rw [if_neg (beq_f b3)] at h
      refine ⟨b3, ?_⟩
      refine ⟨b3, ?_⟩
      refine ⟨rfl, ?_⟩
      refine ⟨trivial, ?_⟩
      refine ⟨b3, ?_⟩
      refine ⟨trivial, ?_⟩
      refine ⟨trivial, ?_⟩
      refine ⟨trivial, ?_⟩
      obtain rfl := Option.some.inj h
      exact ⟨trivial, trivial, rfl, rfl⟩
/-! halter/halterref02.none -/
def halterref02_none.f (a0 : Int) (a1 : Int) : Option Bool :=
  (halterref02_Class.f a0).bind fun t1 =>
  if t1 = (4 : Int) then
    some true
  else
    (halterref02_Class.f a1).bind fun t3 =>
    some (t3 == (4 : Int))
def halterref02_none.R (r : Bool) : Tm := .v (.one (.sc (.bool r)))
theorem halterref02_none.fun_ {a0 : Int} {a1 : Int} {r : Bool} (h : halterref02_none.f a0 a1 = some r) : Fun cfg 39 [.one (.sc (.int .u64 a0)), .one (.sc (.int .u64 a1))] [] (halterref02_none.R r) [] := by
  unfold halterref02_none.f at h
  refine fun_of_run cfg_ok (f := 39) (fn := Try.f39) Try.func39 rfl (by kernel_rfl) (rs := [.tmp 4]) rfl (nt := 13) rfl (l := fin) (k := (.call true [] (Int) (fun t1 => halterref02_Class.R t1) (fun t1 => (.br (.one true (.one true (.one true (.adj [] (.adj [] .nil))))) (.one false (.call true [] (Int) (fun t3 => halterref02_Class.R t3) (fun t3 => (.one false (.one false (.adj [] (.adj [] .nil))))))))))) (to_goal (q := (∃ t1 : Int, (Fun cfg 21 [.one (.sc (.int .u64 a0))] [] (halterref02_Class.R t1) [] ∧ True) ∧ (True) ∧ (((t1 == (4 : Int)) = false → ((t1 == (4 : Int)) = false ∧ (∃ t3 : Int, (Fun cfg 21 [.one (.sc (.int .u64 a1))] [] (halterref02_Class.R t3) [] ∧ True) ∧ ((t1 == (4 : Int)) = false ∧ (True) ∧ ((t1 == (4 : Int)) = false ∧ (True ∧ ((True) ∧ (True) ∧ (.v (.one (.sc (.bool (t3 == (4 : Int))))) : Tm) = halterref02_none.R r ∧ ([] : List Box) = []))))))) ∧ ((t1 == (4 : Int)) = true → ((t1 == (4 : Int)) = true ∧ ((t1 == (4 : Int)) = true ∧ ((t1 == (4 : Int)) = true ∧ (True ∧ ((True) ∧ (True) ∧ (.v (.one (.sc (.bool true))) : Tm) = halterref02_none.R r ∧ ([] : List Box) = []))))))))) (by kernel_rfl) ?_)
  obtain ⟨t1, ht1, h⟩ := of_bind h
  refine ⟨t1, ⟨halterref02_Class.fun_ ht1, trivial⟩, ?_⟩
  refine ⟨trivial, ?_⟩
  refine ⟨fun b2 => ?_, fun b2 => ?_⟩
  · rw [if_neg (beq_f b2)] at h
    refine ⟨b2, ?_⟩
    obtain ⟨t3, ht3, h⟩ := of_bind h
    refine ⟨t3, ⟨halterref02_Class.fun_ ht3, trivial⟩, ?_⟩
    refine ⟨b2, ?_⟩
    refine ⟨trivial, ?_⟩
    refine ⟨b2, ?_⟩
    refine ⟨trivial, ?_⟩
    obtain rfl := Option.some.inj h
    exact ⟨trivial, trivial, rfl, rfl⟩
  · rw [if_pos (beq_t b2)] at h
    refine ⟨b2, ?_⟩
    refine ⟨b2, ?_⟩
    refine ⟨b2, ?_⟩
    refine ⟨trivial, ?_⟩
    obtain rfl := Option.some.inj h
    exact ⟨trivial, trivial, rfl, rfl⟩
/-! halter/halterref02.signed -/
def halterref02_signed.f (a0 : Bool) (a1 : Int) : Option Int :=
  if a0 = true then
    some (IntKind.wrap .u64 (a1 + (9223372036854775808 : Int)))
  else
    some a1
def halterref02_signed.R (r : Int) : Tm := .v (.one (.sc (.int .u64 r)))
theorem halterref02_signed.fun_ {a0 : Bool} {a1 : Int} {r : Int} (h : halterref02_signed.f a0 a1 = some r) : Fun cfg 40 [.one (.sc (.bool a0)), .one (.sc (.int .u64 a1))] [] (halterref02_signed.R r) [] := by
  unfold halterref02_signed.f at h
  refine fun_of_run cfg_ok (f := 40) (fn := Try.f40) Try.func40 rfl (by kernel_rfl) (rs := [.tmp 4]) rfl (nt := 9) rfl (l := fin) (k := (.br (.adj [] (.adj [] (.adj [] .nil))) (.adj [] (.adj [] (.adj [] (.adj [] .nil)))))) (to_goal (q := ((a0 = true → (True ∧ (True) ∧ (True ∧ ((True) ∧ (True) ∧ (.v (.one (.sc (.int .u64 (IntKind.wrap .u64 (a1 + (9223372036854775808 : Int)))))) : Tm) = halterref02_signed.R r ∧ ([] : List Box) = [])))) ∧ (a0 = false → (True ∧ (True ∧ (True ∧ ((True) ∧ (True) ∧ (.v (.one (.sc (.int .u64 a1))) : Tm) = halterref02_signed.R r ∧ ([] : List Box) = []))))))) (by kernel_rfl) ?_)
  refine ⟨fun b1 => ?_, fun b1 => ?_⟩
  · rw [if_pos b1] at h
    refine ⟨trivial, ?_⟩
    refine ⟨trivial, ?_⟩
    refine ⟨trivial, ?_⟩
    obtain rfl := Option.some.inj h
    exact ⟨trivial, trivial, rfl, rfl⟩
  · rw [if_neg (ff b1)] at h
    refine ⟨trivial, ?_⟩
    refine ⟨trivial, ?_⟩
    refine ⟨trivial, ?_⟩
    obtain rfl := Option.some.inj h
    exact ⟨trivial, trivial, rfl, rfl⟩
/-! halter/halterref02.Open -/
def halterref02_Open.f (a0 : Int) : Option (Bool × Int × Int × Bool) :=
  if (IntKind.wrap .i64 ((Int.tmod (IntKind.wrap .u64 (Int.tdiv a0 (4503599627370496 : Int))) (2048 : Int)))) = (0 : Int) then
    (halterref02_Neg.f a0).bind fun t2 =>
    some (t2, (Int.tmod a0 (4503599627370496 : Int)), (-1074 : Int), false)
  else
    (halterref02_Neg.f a0).bind fun t3 =>
    some (t3, (IntKind.wrap .u64 ((Int.tmod a0 (4503599627370496 : Int)) + (4503599627370496 : Int))), (IntKind.wrap .i64 ((IntKind.wrap .i64 ((Int.tmod (IntKind.wrap .u64 (Int.tdiv a0 (4503599627370496 : Int))) (2048 : Int)))) - (1075 : Int))), false)
def halterref02_Open.R (r : Bool × Int × Int × Bool) : Tm := .v (.agg [.c (.sc (.bool r.1)), .c (.sc (.int .u64 r.2.1)), .c (.sc (.int .i64 r.2.2.1)), .c (.sc (.bool r.2.2.2))])
theorem halterref02_Open.fun_ {a0 : Int} {r : Bool × Int × Int × Bool} (h : halterref02_Open.f a0 = some r) : Fun cfg 41 [.one (.sc (.int .u64 a0))] [] (halterref02_Open.R r) [] := by
  unfold halterref02_Open.f at h
  refine fun_of_run cfg_ok (f := 41) (fn := Try.f41) Try.func41 rfl (by kernel_rfl) (rs := [.cell 2 44]) rfl (nt := 24) rfl (l := fin) (k := (.br (.call true [] (Bool) (fun t2 => halterref02_Neg.R t2) (fun t2 => (.adj [] (.adj [.drop 0] .nil)))) (.call true [] (Bool) (fun t3 => halterref02_Neg.R t3) (fun t3 => (.adj [] (.adj [.drop 0] .nil)))))) (to_goal (q := ((4503599627370496 : Int) ≠ 0) ∧ ((2048 : Int) ≠ 0) ∧ (True) ∧ ((4503599627370496 : Int) ≠ 0) ∧ (True) ∧ ((((IntKind.wrap .i64 ((Int.tmod (IntKind.wrap .u64 (Int.tdiv a0 (4503599627370496 : Int))) (2048 : Int)))) == (0 : Int)) = true → (∃ t2 : Bool, (Fun cfg 38 [.one (.sc (.int .u64 a0))] [] (halterref02_Neg.R t2) [] ∧ True) ∧ (True) ∧ (True ∧ (((True) ∧ True) ∧ ((True) ∧ True) ∧ (.v (.agg [.c (.sc (.bool t2)), .c (.sc (.int .u64 (Int.tmod a0 (4503599627370496 : Int)))), .c (.sc (.int .i64 (-1074 : Int))), .c (.sc (.bool false))]) : Tm) = halterref02_Open.R r ∧ ([] : List Box) = [])))) ∧ (((IntKind.wrap .i64 ((Int.tmod (IntKind.wrap .u64 (Int.tdiv a0 (4503599627370496 : Int))) (2048 : Int)))) == (0 : Int)) = false → (∃ t3 : Bool, (Fun cfg 38 [.one (.sc (.int .u64 a0))] [] (halterref02_Neg.R t3) [] ∧ True) ∧ (True) ∧ (True) ∧ (True) ∧ (True ∧ (((True) ∧ True) ∧ ((True) ∧ True) ∧ (.v (.agg [.c (.sc (.bool t3)), .c (.sc (.int .u64 (IntKind.wrap .u64 ((Int.tmod a0 (4503599627370496 : Int)) + (4503599627370496 : Int))))), .c (.sc (.int .i64 (IntKind.wrap .i64 ((IntKind.wrap .i64 ((Int.tmod (IntKind.wrap .u64 (Int.tdiv a0 (4503599627370496 : Int))) (2048 : Int)))) - (1075 : Int))))), .c (.sc (.bool false))]) : Tm) = halterref02_Open.R r ∧ ([] : List Box) = [])))))) (by kernel_rfl) ?_)
  refine ⟨(by decide), ?_⟩
  refine ⟨(by decide), ?_⟩
  refine ⟨trivial, ?_⟩
  refine ⟨(by decide), ?_⟩
  refine ⟨trivial, ?_⟩
  refine ⟨fun b1 => ?_, fun b1 => ?_⟩
  · rw [if_pos (beq_t b1)] at h
    obtain ⟨t2, ht2, h⟩ := of_bind h
    refine ⟨t2, ⟨halterref02_Neg.fun_ ht2, trivial⟩, ?_⟩
    refine ⟨trivial, ?_⟩
    refine ⟨trivial, ?_⟩
    obtain rfl := Option.some.inj h
    exact ⟨⟨trivial, trivial⟩, ⟨trivial, trivial⟩, rfl, rfl⟩
  · rw [if_neg (beq_f b1)] at h
    obtain ⟨t3, ht3, h⟩ := of_bind h
    refine ⟨t3, ⟨halterref02_Neg.fun_ ht3, trivial⟩, ?_⟩
    refine ⟨trivial, ?_⟩
    refine ⟨trivial, ?_⟩
    refine ⟨trivial, ?_⟩
    refine ⟨trivial, ?_⟩
    obtain rfl := Option.some.inj h
    exact ⟨⟨trivial, trivial⟩, ⟨trivial, trivial⟩, rfl, rfl⟩
/-! halter/halterref02.Product -/
def halterref02_Product.f (a0 : Int) (a1 : Int) : Option (Int × Int) :=
  some ((IntKind.wrap .u64 ((IntKind.wrap .u64 ((IntKind.wrap .u64 (Int.tdiv a0 (134217728 : Int))) * (IntKind.wrap .u64 (Int.tdiv a1 (134217728 : Int))))) + (IntKind.wrap .u64 (Int.tdiv (IntKind.wrap .u64 ((IntKind.wrap .u64 ((IntKind.wrap .u64 ((IntKind.wrap .u64 (Int.tdiv a0 (134217728 : Int))) * (Int.tmod a1 (134217728 : Int)))) + (IntKind.wrap .u64 ((Int.tmod a0 (134217728 : Int)) * (IntKind.wrap .u64 (Int.tdiv a1 (134217728 : Int))))))) + (IntKind.wrap .u64 (Int.tdiv (IntKind.wrap .u64 ((Int.tmod a0 (134217728 : Int)) * (Int.tmod a1 (134217728 : Int)))) (134217728 : Int))))) (134217728 : Int))))), (IntKind.wrap .u64 ((IntKind.wrap .u64 ((Int.tmod (IntKind.wrap .u64 ((IntKind.wrap .u64 ((IntKind.wrap .u64 ((IntKind.wrap .u64 (Int.tdiv a0 (134217728 : Int))) * (Int.tmod a1 (134217728 : Int)))) + (IntKind.wrap .u64 ((Int.tmod a0 (134217728 : Int)) * (IntKind.wrap .u64 (Int.tdiv a1 (134217728 : Int))))))) + (IntKind.wrap .u64 (Int.tdiv (IntKind.wrap .u64 ((Int.tmod a0 (134217728 : Int)) * (Int.tmod a1 (134217728 : Int)))) (134217728 : Int))))) (134217728 : Int)) * (134217728 : Int))) + (Int.tmod (IntKind.wrap .u64 ((Int.tmod a0 (134217728 : Int)) * (Int.tmod a1 (134217728 : Int)))) (134217728 : Int)))))
def halterref02_Product.R (r : Int × Int) : Tm := .tup [.one (.sc (.int .u64 r.1)), .one (.sc (.int .u64 r.2))]
theorem halterref02_Product.fun_ {a0 : Int} {a1 : Int} {r : Int × Int} (h : halterref02_Product.f a0 a1 = some r) : Fun cfg 42 [.one (.sc (.int .u64 a0)), .one (.sc (.int .u64 a1))] [] (halterref02_Product.R r) [] := by
  unfold halterref02_Product.f at h
  refine fun_of_run cfg_ok (f := 42) (fn := Try.f42) Try.func42 rfl (by kernel_rfl) (rs := [.tmp 4, .tmp 5]) rfl (nt := 41) rfl (l := fin) (k := (.adj [] (.adj [] (.adj [] (.adj [] (.adj [] (.adj [] .nil))))))) (to_goal (q := (True ∧ (True ∧ ((134217728 : Int) ≠ 0) ∧ ((134217728 : Int) ≠ 0) ∧ (True) ∧ (True ∧ ((134217728 : Int) ≠ 0) ∧ ((134217728 : Int) ≠ 0) ∧ (True) ∧ ((134217728 : Int) ≠ 0) ∧ ((134217728 : Int) ≠ 0) ∧ (True) ∧ (True) ∧ ((134217728 : Int) ≠ 0) ∧ (True) ∧ (True ∧ ((134217728 : Int) ≠ 0) ∧ ((134217728 : Int) ≠ 0) ∧ (True) ∧ ((134217728 : Int) ≠ 0) ∧ (True) ∧ ((134217728 : Int) ≠ 0) ∧ (True) ∧ ((134217728 : Int) ≠ 0) ∧ (True) ∧ (True ∧ ((True) ∧ (True) ∧ (.tup [.one (.sc (.int .u64 (IntKind.wrap .u64 ((IntKind.wrap .u64 ((IntKind.wrap .u64 (Int.tdiv a0 (134217728 : Int))) * (IntKind.wrap .u64 (Int.tdiv a1 (134217728 : Int))))) + (IntKind.wrap .u64 (Int.tdiv (IntKind.wrap .u64 ((IntKind.wrap .u64 ((IntKind.wrap .u64 ((IntKind.wrap .u64 (Int.tdiv a0 (134217728 : Int))) * (Int.tmod a1 (134217728 : Int)))) + (IntKind.wrap .u64 ((Int.tmod a0 (134217728 : Int)) * (IntKind.wrap .u64 (Int.tdiv a1 (134217728 : Int))))))) + (IntKind.wrap .u64 (Int.tdiv (IntKind.wrap .u64 ((Int.tmod a0 (134217728 : Int)) * (Int.tmod a1 (134217728 : Int)))) (134217728 : Int))))) (134217728 : Int))))))), .one (.sc (.int .u64 (IntKind.wrap .u64 ((IntKind.wrap .u64 ((Int.tmod (IntKind.wrap .u64 ((IntKind.wrap .u64 ((IntKind.wrap .u64 ((IntKind.wrap .u64 (Int.tdiv a0 (134217728 : Int))) * (Int.tmod a1 (134217728 : Int)))) + (IntKind.wrap .u64 ((Int.tmod a0 (134217728 : Int)) * (IntKind.wrap .u64 (Int.tdiv a1 (134217728 : Int))))))) + (IntKind.wrap .u64 (Int.tdiv (IntKind.wrap .u64 ((Int.tmod a0 (134217728 : Int)) * (Int.tmod a1 (134217728 : Int)))) (134217728 : Int))))) (134217728 : Int)) * (134217728 : Int))) + (Int.tmod (IntKind.wrap .u64 ((Int.tmod a0 (134217728 : Int)) * (Int.tmod a1 (134217728 : Int)))) (134217728 : Int))))))] : Tm) = halterref02_Product.R r ∧ ([] : List Box) = []))))))) (by kernel_rfl) ?_)
  refine ⟨trivial, ?_⟩
  refine ⟨trivial, ?_⟩
  refine ⟨(by decide), ?_⟩
  refine ⟨(by decide), ?_⟩
  refine ⟨trivial, ?_⟩
  refine ⟨trivial, ?_⟩
  refine ⟨(by decide), ?_⟩
  refine ⟨(by decide), ?_⟩
  refine ⟨trivial, ?_⟩
  refine ⟨(by decide), ?_⟩
  refine ⟨(by decide), ?_⟩
  refine ⟨trivial, ?_⟩
  refine ⟨trivial, ?_⟩
  refine ⟨(by decide), ?_⟩
  refine ⟨trivial, ?_⟩
  refine ⟨trivial, ?_⟩
  refine ⟨(by decide), ?_⟩
  refine ⟨(by decide), ?_⟩
  refine ⟨trivial, ?_⟩
  refine ⟨(by decide), ?_⟩
  refine ⟨trivial, ?_⟩
  refine ⟨(by decide), ?_⟩
  refine ⟨trivial, ?_⟩
  refine ⟨(by decide), ?_⟩
  refine ⟨trivial, ?_⟩
  refine ⟨trivial, ?_⟩
  obtain rfl := Option.some.inj h
  exact ⟨trivial, trivial, rfl, rfl⟩
/-! halter/halterref02.Round -/
def halterref02_Round.l0 (a0 : Bool) (a3 : Bool) : Nat → Int → Int → Bool → Bool → Option (Int × Int × Bool × Bool)
  | 0, _, _, _, _ => none
  | n + 1, x11, x12, x13, x14 =>
    if x11 ≥ (9007199254740992 : Int) then
      if x14 = true then
        halterref02_Round.l0 a0 a3 n (IntKind.wrap .u64 (Int.tdiv x11 (2 : Int))) (IntKind.wrap .i64 (x12 + (1 : Int))) ((Int.tmod x11 (2 : Int)) == (1 : Int)) true
      else
        halterref02_Round.l0 a0 a3 n (IntKind.wrap .u64 (Int.tdiv x11 (2 : Int))) (IntKind.wrap .i64 (x12 + (1 : Int))) ((Int.tmod x11 (2 : Int)) == (1 : Int)) x13
    else
      if x12 < (-1074 : Int) then
        if x11 > (0 : Int) then
          if x14 = true then
            halterref02_Round.l0 a0 a3 n (IntKind.wrap .u64 (Int.tdiv x11 (2 : Int))) (IntKind.wrap .i64 (x12 + (1 : Int))) ((Int.tmod x11 (2 : Int)) == (1 : Int)) true
          else
            halterref02_Round.l0 a0 a3 n (IntKind.wrap .u64 (Int.tdiv x11 (2 : Int))) (IntKind.wrap .i64 (x12 + (1 : Int))) ((Int.tmod x11 (2 : Int)) == (1 : Int)) x13
        else
          if x13 = true then
            if x14 = true then
              halterref02_Round.l0 a0 a3 n (IntKind.wrap .u64 (Int.tdiv x11 (2 : Int))) (IntKind.wrap .i64 (x12 + (1 : Int))) ((Int.tmod x11 (2 : Int)) == (1 : Int)) true
            else
              halterref02_Round.l0 a0 a3 n (IntKind.wrap .u64 (Int.tdiv x11 (2 : Int))) (IntKind.wrap .i64 (x12 + (1 : Int))) ((Int.tmod x11 (2 : Int)) == (1 : Int)) x13
          else
            if x14 = true then
              halterref02_Round.l0 a0 a3 n (IntKind.wrap .u64 (Int.tdiv x11 (2 : Int))) (IntKind.wrap .i64 (x12 + (1 : Int))) ((Int.tmod x11 (2 : Int)) == (1 : Int)) true
            else
              some (x11, x12, x13, x14)
      else
        some (x11, x12, x13, x14)
def halterref02_Round.l0_S (a0 : Bool) (a3 : Bool) (x11 : Int) (x12 : Int) (x13 : Bool) (x14 : Bool) : St := ⟨[.any, .v (.one (.ptr 0 ⟨0, 0, 0, 0⟩)), .any, .v (.one (.sc (.bool x13))), .v (.one (.sc (.bool x14))), .any, .any, .any, .any, .any, .any, .any, .any, .any, .any, .any, .any, .any, .any, .any, .any, .any, .any, .any, .any, .any, .any, .any, .any, .any, .any, .any, .any, .any, .any, .any, .any, .any, .any, .any, .any, .any, .any, .any, .any, .any, .any, .any, .any, .any, .any, .any, .any, .any, .any, .any, .any, .any, .any, .any, .any, .any, .any, .any, .any, .any, .any, .any, .any, .any, .any, .any, .any, .any, .any, .any, .any, .any, .any, .any, .any, .any, .any, .any, .any, .any, .any, .any, .any, .any, .any, .any, .any, .any, .any, .any, .any, .any, .any, .any, .any, .any, .any, .any, .any, .any, .any, .any, .any, .any, .any, .any, .any, .any, .any, .any, .any, .any, .any, .any, .any, .any, .any, .any, .any, .any, .any, .any, .any], [.ex false [.c (.sc (.bool a0)), .c (.sc (.int .u64 x11)), .c (.sc (.int .i64 x12)), .c (.sc (.bool a3))] 44], 0⟩
def halterref02_Round.l0_Q (a0 : Bool) (a3 : Bool) (t : Int × Int × Bool × Bool) : Exit → St → Prop := fun e s => e = (.exit 0) ∧ s = ⟨[.any, .v (.one (.ptr 0 ⟨0, 0, 0, 0⟩)), .any, .v (.one (.sc (.bool t.2.2.1))), .v (.one (.sc (.bool t.2.2.2))), .any, .any, .any, .any, .any, .any, .any, .any, .any, .any, .any, .any, .any, .any, .any, .any, .any, .any, .any, .any, .any, .any, .any, .any, .any, .any, .any, .any, .any, .any, .any, .any, .any, .any, .any, .any, .any, .any, .any, .any, .any, .any, .any, .any, .any, .any, .any, .any, .any, .any, .any, .any, .any, .any, .any, .any, .any, .any, .any, .any, .any, .any, .any, .any, .any, .any, .any, .any, .any, .any, .any, .any, .any, .any, .any, .any, .any, .any, .any, .any, .any, .any, .any, .any, .any, .any, .any, .any, .any, .any, .any, .any, .any, .any, .any, .any, .any, .any, .any, .any, .any, .any, .any, .any, .any, .any, .any, .any, .any, .any, .any, .any, .any, .any, .any, .any, .any, .any, .any, .any, .any, .any, .any, .any], [.ex false [.c (.sc (.bool a0)), .c (.sc (.int .u64 t.1)), .c (.sc (.int .i64 t.2.1)), .c (.sc (.bool a3))] 44], 0⟩
theorem halterref02_Round.l0_ok (a0 : Bool) (a3 : Bool) : ∀ (n : Nat) (x11 : Int) (x12 : Int) (x13 : Bool) (x14 : Bool) (r : Int × Int × Bool × Bool), halterref02_Round.l0 a0 a3 n x11 x12 x13 x14 = some r → TripN cfg (cpath (Try.f43.body.getD .skip) [1, 1, 0, 0, 0]) n (halterref02_Round.l0_S a0 a3 x11 x12 x13 x14) (halterref02_Round.l0_Q a0 a3 r) := by
  intro n
  induction n with
  | zero => intro x11 x12 x13 x14 r h; cases h
  | succ n ih =>
    intro x11 x12 x13 x14 r h
    rw [halterref02_Round.l0] at h
    refine TripN.of_run cfg_ok (k := (.br (.one true (.one true (.one true (.one true (.one true (.one true (.br (.one true (.adj [] (.adj [] (.adj [] (.adj [.keep [1, 3, 4], .drop 1] .nil))))) (.one false (.adj [] (.adj [] (.adj [] (.adj [.keep [1, 3, 4], .drop 1] .nil)))))))))))) (.one false (.one false (.one false (.br (.one true (.one true (.one true (.br (.one true (.one true (.one true (.one true (.one true (.one true (.one false (.one true (.one false (.one true (.br (.one true (.adj [] (.adj [] (.adj [] (.adj [.keep [1, 3, 4], .drop 1] .nil))))) (.one false (.adj [] (.adj [] (.adj [] (.adj [.keep [1, 3, 4], .drop 1] .nil)))))))))))))))) (.one true (.one false (.one true (.br (.one true (.one true (.one false (.one true (.one false (.one true (.br (.one true (.adj [] (.adj [] (.adj [] (.adj [.keep [1, 3, 4], .drop 1] .nil))))) (.one false (.adj [] (.adj [] (.adj [] (.adj [.keep [1, 3, 4], .drop 1] .nil)))))))))))) (.one true (.one false (.one false (.one true (.one false (.br (.one true (.one true (.adj [] (.adj [] (.adj [] (.adj [.keep [1, 3, 4], .drop 1] .nil)))))) (.adj [.keep [1, 3, 4], .drop 1] .nil))))))))))))))) (.one false (.one false (.one false (.one false (.one false (.one false (.one false (.one false (.one false (.one false (.adj [.keep [1, 3, 4], .drop 1] .nil))))))))))))))))) (to_goal (q := (True) ∧ (True) ∧ (((decide (x11 ≥ (9007199254740992 : Int))) = false → ((decide (x11 ≥ (9007199254740992 : Int))) = false ∧ (True) ∧ ((decide (x11 ≥ (9007199254740992 : Int))) = false ∧ (True) ∧ ((decide (x11 ≥ (9007199254740992 : Int))) = false ∧ (((decide (x12 < (-1074 : Int))) = true → ((decide (x12 < (-1074 : Int))) = true ∧ (True) ∧ ((decide (x12 < (-1074 : Int))) = true ∧ (True) ∧ ((decide (x12 < (-1074 : Int))) = true ∧ (((decide (x11 > (0 : Int))) = false → ((decide (x12 < (-1074 : Int))) = true ∧ ((decide (x11 > (0 : Int))) = false ∧ ((decide (x12 < (-1074 : Int))) = true ∧ ((x13 = false → ((decide (x12 < (-1074 : Int))) = true ∧ (x13 = false ∧ ((decide (x11 ≥ (9007199254740992 : Int))) = false ∧ ((decide (x12 < (-1074 : Int))) = true ∧ ((decide (x11 ≥ (9007199254740992 : Int))) = false ∧ ((x14 = true → (x14 = true ∧ (x14 = true ∧ (True ∧ (True) ∧ ((2 : Int) ≠ 0) ∧ (True) ∧ (True ∧ (True) ∧ ((2 : Int) ≠ 0) ∧ (True) ∧ (True ∧ (True) ∧ (True) ∧ (True) ∧ (((True) ∧ (True) ∧ True) ∧ TripN cfg (cpath (Try.f43.body.getD .skip) [1, 1, 0, 0, 0]) n (halterref02_Round.l0_S a0 a3 (IntKind.wrap .u64 (Int.tdiv x11 (2 : Int))) (IntKind.wrap .i64 (x12 + (1 : Int))) ((Int.tmod x11 (2 : Int)) == (1 : Int)) true) (halterref02_Round.l0_Q a0 a3 r)))))))) ∧ (x14 = false → (((True) ∧ (True) ∧ True) ∧ halterref02_Round.l0_Q a0 a3 r (.exit 0) ⟨[.any, .v (.one (.ptr 0 ⟨0, 0, 0, 0⟩)), .any, .v (.one (.sc (.bool x13))), .v (.one (.sc (.bool x14))), .any, .any, .any, .any, .any, .any, .any, .any, .any, .any, .any, .any, .any, .any, .any, .any, .any, .any, .any, .any, .any, .any, .any, .any, .any, .any, .any, .any, .any, .any, .any, .any, .any, .any, .any, .any, .any, .any, .any, .any, .any, .any, .any, .any, .any, .any, .any, .any, .any, .any, .any, .any, .any, .any, .any, .any, .any, .any, .any, .any, .any, .any, .any, .any, .any, .any, .any, .any, .any, .any, .any, .any, .any, .any, .any, .any, .any, .any, .any, .any, .any, .any, .any, .any, .any, .any, .any, .any, .any, .any, .any, .any, .any, .any, .any, .any, .any, .any, .any, .any, .any, .any, .any, .any, .any, .any, .any, .any, .any, .any, .any, .any, .any, .any, .any, .any, .any, .any, .any, .any, .any, .any, .any, .any], [.ex false [.c (.sc (.bool a0)), .c (.sc (.int .u64 x11)), .c (.sc (.int .i64 x12)), .c (.sc (.bool a3))] 44], 0⟩))))))))) ∧ (x13 = true → ((decide (x12 < (-1074 : Int))) = true ∧ (x13 = true ∧ ((decide (x11 ≥ (9007199254740992 : Int))) = false ∧ ((decide (x12 < (-1074 : Int))) = true ∧ ((decide (x11 ≥ (9007199254740992 : Int))) = false ∧ (true = true ∧ ((x14 = false → (x14 = false ∧ (True ∧ (True) ∧ ((2 : Int) ≠ 0) ∧ (True) ∧ (True ∧ (True) ∧ ((2 : Int) ≠ 0) ∧ (True) ∧ (True ∧ (True) ∧ (True) ∧ (True) ∧ (((True) ∧ (True) ∧ True) ∧ TripN cfg (cpath (Try.f43.body.getD .skip) [1, 1, 0, 0, 0]) n (halterref02_Round.l0_S a0 a3 (IntKind.wrap .u64 (Int.tdiv x11 (2 : Int))) (IntKind.wrap .i64 (x12 + (1 : Int))) ((Int.tmod x11 (2 : Int)) == (1 : Int)) x13) (halterref02_Round.l0_Q a0 a3 r))))))) ∧ (x14 = true → (x14 = true ∧ (True ∧ (True) ∧ ((2 : Int) ≠ 0) ∧ (True) ∧ (True ∧ (True) ∧ ((2 : Int) ≠ 0) ∧ (True) ∧ (True ∧ (True) ∧ (True) ∧ (True) ∧ (((True) ∧ (True) ∧ True) ∧ TripN cfg (cpath (Try.f43.body.getD .skip) [1, 1, 0, 0, 0]) n (halterref02_Round.l0_S a0 a3 (IntKind.wrap .u64 (Int.tdiv x11 (2 : Int))) (IntKind.wrap .i64 (x12 + (1 : Int))) ((Int.tmod x11 (2 : Int)) == (1 : Int)) true) (halterref02_Round.l0_Q a0 a3 r)))))))))))))))))))) ∧ ((decide (x11 > (0 : Int))) = true → ((decide (x12 < (-1074 : Int))) = true ∧ ((decide (x11 > (0 : Int))) = true ∧ ((decide (x12 < (-1074 : Int))) = true ∧ (true = true ∧ ((decide (x12 < (-1074 : Int))) = true ∧ (true = true ∧ ((decide (x11 ≥ (9007199254740992 : Int))) = false ∧ ((decide (x12 < (-1074 : Int))) = true ∧ ((decide (x11 ≥ (9007199254740992 : Int))) = false ∧ (true = true ∧ ((x14 = false → (x14 = false ∧ (True ∧ (True) ∧ ((2 : Int) ≠ 0) ∧ (True) ∧ (True ∧ (True) ∧ ((2 : Int) ≠ 0) ∧ (True) ∧ (True ∧ (True) ∧ (True) ∧ (True) ∧ (((True) ∧ (True) ∧ True) ∧ TripN cfg (cpath (Try.f43.body.getD .skip) [1, 1, 0, 0, 0]) n (halterref02_Round.l0_S a0 a3 (IntKind.wrap .u64 (Int.tdiv x11 (2 : Int))) (IntKind.wrap .i64 (x12 + (1 : Int))) ((Int.tmod x11 (2 : Int)) == (1 : Int)) x13) (halterref02_Round.l0_Q a0 a3 r))))))) ∧ (x14 = true → (x14 = true ∧ (True ∧ (True) ∧ ((2 : Int) ≠ 0) ∧ (True) ∧ (True ∧ (True) ∧ ((2 : Int) ≠ 0) ∧ (True) ∧ (True ∧ (True) ∧ (True) ∧ (True) ∧ (((True) ∧ (True) ∧ True) ∧ TripN cfg (cpath (Try.f43.body.getD .skip) [1, 1, 0, 0, 0]) n (halterref02_Round.l0_S a0 a3 (IntKind.wrap .u64 (Int.tdiv x11 (2 : Int))) (IntKind.wrap .i64 (x12 + (1 : Int))) ((Int.tmod x11 (2 : Int)) == (1 : Int)) true) (halterref02_Round.l0_Q a0 a3 r)))))))))))))))))))))))) ∧ ((decide (x12 < (-1074 : Int))) = false → ((decide (x12 < (-1074 : Int))) = false ∧ ((decide (x12 < (-1074 : Int))) = false ∧ ((decide (x12 < (-1074 : Int))) = false ∧ ((decide (x12 < (-1074 : Int))) = false ∧ ((decide (x12 < (-1074 : Int))) = false ∧ ((decide (x12 < (-1074 : Int))) = false ∧ ((decide (x11 ≥ (9007199254740992 : Int))) = false ∧ ((decide (x12 < (-1074 : Int))) = false ∧ ((decide (x11 ≥ (9007199254740992 : Int))) = false ∧ (false = false ∧ (((True) ∧ (True) ∧ True) ∧ halterref02_Round.l0_Q a0 a3 r (.exit 0) ⟨[.any, .v (.one (.ptr 0 ⟨0, 0, 0, 0⟩)), .any, .v (.one (.sc (.bool x13))), .v (.one (.sc (.bool x14))), .any, .any, .any, .any, .any, .any, .any, .any, .any, .any, .any, .any, .any, .any, .any, .any, .any, .any, .any, .any, .any, .any, .any, .any, .any, .any, .any, .any, .any, .any, .any, .any, .any, .any, .any, .any, .any, .any, .any, .any, .any, .any, .any, .any, .any, .any, .any, .any, .any, .any, .any, .any, .any, .any, .any, .any, .any, .any, .any, .any, .any, .any, .any, .any, .any, .any, .any, .any, .any, .any, .any, .any, .any, .any, .any, .any, .any, .any, .any, .any, .any, .any, .any, .any, .any, .any, .any, .any, .any, .any, .any, .any, .any, .any, .any, .any, .any, .any, .any, .any, .any, .any, .any, .any, .any, .any, .any, .any, .any, .any, .any, .any, .any, .any, .any, .any, .any, .any, .any, .any, .any, .any, .any, .any], [.ex false [.c (.sc (.bool a0)), .c (.sc (.int .u64 x11)), .c (.sc (.int .i64 x12)), .c (.sc (.bool a3))] 44], 0⟩))))))))))))))))) ∧ ((decide (x11 ≥ (9007199254740992 : Int))) = true → ((decide (x11 ≥ (9007199254740992 : Int))) = true ∧ ((decide (x11 ≥ (9007199254740992 : Int))) = true ∧ ((decide (x11 ≥ (9007199254740992 : Int))) = true ∧ ((decide (x11 ≥ (9007199254740992 : Int))) = true ∧ ((decide (x11 ≥ (9007199254740992 : Int))) = true ∧ (true = true ∧ ((x14 = false → (x14 = false ∧ (True ∧ (True) ∧ ((2 : Int) ≠ 0) ∧ (True) ∧ (True ∧ (True) ∧ ((2 : Int) ≠ 0) ∧ (True) ∧ (True ∧ (True) ∧ (True) ∧ (True) ∧ (((True) ∧ (True) ∧ True) ∧ TripN cfg (cpath (Try.f43.body.getD .skip) [1, 1, 0, 0, 0]) n (halterref02_Round.l0_S a0 a3 (IntKind.wrap .u64 (Int.tdiv x11 (2 : Int))) (IntKind.wrap .i64 (x12 + (1 : Int))) ((Int.tmod x11 (2 : Int)) == (1 : Int)) x13) (halterref02_Round.l0_Q a0 a3 r))))))) ∧ (x14 = true → (x14 = true ∧ (True ∧ (True) ∧ ((2 : Int) ≠ 0) ∧ (True) ∧ (True ∧ (True) ∧ ((2 : Int) ≠ 0) ∧ (True) ∧ (True ∧ (True) ∧ (True) ∧ (True) ∧ (((True) ∧ (True) ∧ True) ∧ TripN cfg (cpath (Try.f43.body.getD .skip) [1, 1, 0, 0, 0]) n (halterref02_Round.l0_S a0 a3 (IntKind.wrap .u64 (Int.tdiv x11 (2 : Int))) (IntKind.wrap .i64 (x12 + (1 : Int))) ((Int.tmod x11 (2 : Int)) == (1 : Int)) true) (halterref02_Round.l0_Q a0 a3 r))))))))))))))))) (by kernel_rfl) ?_)
    refine ⟨trivial, ?_⟩
    refine ⟨trivial, ?_⟩
    refine ⟨fun b28 => ?_, fun b28 => ?_⟩
    · rw [if_neg (of_decide_eq_false b28)] at h
      refine ⟨b28, ?_⟩
      refine ⟨trivial, ?_⟩
      refine ⟨b28, ?_⟩
      refine ⟨trivial, ?_⟩
      refine ⟨b28, ?_⟩
      refine ⟨fun b30 => ?_, fun b30 => ?_⟩
      · rw [if_pos (of_decide_eq_true b30)] at h
        refine ⟨b30, ?_⟩
        refine ⟨trivial, ?_⟩
        refine ⟨b30, ?_⟩
        refine ⟨trivial, ?_⟩
        refine ⟨b30, ?_⟩
        refine ⟨fun b31 => ?_, fun b31 => ?_⟩
        · rw [if_neg (of_decide_eq_false b31)] at h
          refine ⟨b30, ?_⟩
          refine ⟨b31, ?_⟩
          refine ⟨b30, ?_⟩
          refine ⟨fun b33 => ?_, fun b33 => ?_⟩
          · rw [if_neg (ff b33)] at h
            refine ⟨b30, ?_⟩
            refine ⟨b33, ?_⟩
            refine ⟨b28, ?_⟩
            refine ⟨b30, ?_⟩
            refine ⟨b28, ?_⟩
            refine ⟨fun b35 => ?_, fun b35 => ?_⟩
            · rw [if_pos b35] at h
              refine ⟨b35, ?_⟩
              refine ⟨b35, ?_⟩
              refine ⟨trivial, ?_⟩
              refine ⟨trivial, ?_⟩
              refine ⟨(by decide), ?_⟩
              refine ⟨trivial, ?_⟩
              refine ⟨trivial, ?_⟩
              refine ⟨trivial, ?_⟩
              refine ⟨(by decide), ?_⟩
              refine ⟨trivial, ?_⟩
              refine ⟨trivial, ?_⟩
              refine ⟨trivial, ?_⟩
              refine ⟨trivial, ?_⟩
              refine ⟨trivial, ?_⟩
              exact ⟨⟨trivial, trivial, trivial⟩, ih (IntKind.wrap .u64 (Int.tdiv x11 (2 : Int))) (IntKind.wrap .i64 (x12 + (1 : Int))) ((Int.tmod x11 (2 : Int)) == (1 : Int)) true r h⟩
            · rw [if_neg (ff b35)] at h
              obtain rfl := Option.some.inj h
              exact ⟨⟨trivial, trivial, trivial⟩, rfl, rfl⟩
          · rw [if_pos b33] at h
            refine ⟨b30, ?_⟩
            refine ⟨b33, ?_⟩
            refine ⟨b28, ?_⟩
            refine ⟨b30, ?_⟩
            refine ⟨b28, ?_⟩
            refine ⟨rfl, ?_⟩
            refine ⟨fun b34 => ?_, fun b34 => ?_⟩
            · rw [if_neg (ff b34)] at h
              refine ⟨b34, ?_⟩
              refine ⟨trivial, ?_⟩
              refine ⟨trivial, ?_⟩
              refine ⟨(by decide), ?_⟩
              refine ⟨trivial, ?_⟩
              refine ⟨trivial, ?_⟩
              refine ⟨trivial, ?_⟩
              refine ⟨(by decide), ?_⟩
              refine ⟨trivial, ?_⟩
              refine ⟨trivial, ?_⟩
              refine ⟨trivial, ?_⟩
              refine ⟨trivial, ?_⟩
              refine ⟨trivial, ?_⟩
              exact ⟨⟨trivial, trivial, trivial⟩, ih (IntKind.wrap .u64 (Int.tdiv x11 (2 : Int))) (IntKind.wrap .i64 (x12 + (1 : Int))) ((Int.tmod x11 (2 : Int)) == (1 : Int)) x13 r h⟩
            · rw [if_pos b34] at h
              refine ⟨b34, ?_⟩
              refine ⟨trivial, ?_⟩
              refine ⟨trivial, ?_⟩
              refine ⟨(by decide), ?_⟩
              refine ⟨trivial, ?_⟩
              refine ⟨trivial, ?_⟩
              refine ⟨trivial, ?_⟩
              refine ⟨(by decide), ?_⟩
              refine ⟨trivial, ?_⟩
              refine ⟨trivial, ?_⟩
              refine ⟨trivial, ?_⟩
              refine ⟨trivial, ?_⟩
              refine ⟨trivial, ?_⟩
              exact ⟨⟨trivial, trivial, trivial⟩, ih (IntKind.wrap .u64 (Int.tdiv x11 (2 : Int))) (IntKind.wrap .i64 (x12 + (1 : Int))) ((Int.tmod x11 (2 : Int)) == (1 : Int)) true r h⟩
        · rw [if_pos (of_decide_eq_true b31)] at h
          refine ⟨b30, ?_⟩
          refine ⟨b31, ?_⟩
          refine ⟨b30, ?_⟩
          refine ⟨rfl, ?_⟩
          refine ⟨b30, ?_⟩
          refine ⟨rfl, ?_⟩
          refine ⟨b28, ?_⟩
          refine ⟨b30, ?_⟩
          refine ⟨b28, ?_⟩
          refine ⟨rfl, ?_⟩
          refine ⟨fun b32 => ?_, fun b32 => ?_⟩
          · rw [if_neg (ff b32)] at h
            refine ⟨b32, ?_⟩
            refine ⟨trivial, ?_⟩
            refine ⟨trivial, ?_⟩
            refine ⟨(by decide), ?_⟩
            refine ⟨trivial, ?_⟩
            refine ⟨trivial, ?_⟩
            refine ⟨trivial, ?_⟩
            refine ⟨(by decide), ?_⟩
            refine ⟨trivial, ?_⟩
            refine ⟨trivial, ?_⟩
            refine ⟨trivial, ?_⟩
            refine ⟨trivial, ?_⟩
            refine ⟨trivial, ?_⟩
            exact ⟨⟨trivial, trivial, trivial⟩, ih (IntKind.wrap .u64 (Int.tdiv x11 (2 : Int))) (IntKind.wrap .i64 (x12 + (1 : Int))) ((Int.tmod x11 (2 : Int)) == (1 : Int)) x13 r h⟩
          · rw [if_pos b32] at h
            refine ⟨b32, ?_⟩
            refine ⟨trivial, ?_⟩
            refine ⟨trivial, ?_⟩
            refine ⟨(by decide), ?_⟩
            refine ⟨trivial, ?_⟩
            refine ⟨trivial, ?_⟩
            refine ⟨trivial, ?_⟩
            refine ⟨(by decide), ?_⟩
            refine ⟨trivial, ?_⟩
            refine ⟨trivial, ?_⟩
            refine ⟨trivial, ?_⟩
            refine ⟨trivial, ?_⟩
            refine ⟨trivial, ?_⟩
            exact ⟨⟨trivial, trivial, trivial⟩, ih (IntKind.wrap .u64 (Int.tdiv x11 (2 : Int))) (IntKind.wrap .i64 (x12 + (1 : Int))) ((Int.tmod x11 (2 : Int)) == (1 : Int)) true r h⟩
      · rw [if_neg (of_decide_eq_false b30)] at h
        refine ⟨b30, ?_⟩
        refine ⟨b30, ?_⟩
        refine ⟨b30, ?_⟩
        refine ⟨b30, ?_⟩
        refine ⟨b30, ?_⟩
        refine ⟨b30, ?_⟩
        refine ⟨b28, ?_⟩
        refine ⟨b30, ?_⟩
        refine ⟨b28, ?_⟩
        refine ⟨rfl, ?_⟩
        obtain rfl := Option.some.inj h
        exact ⟨⟨trivial, trivial, trivial⟩, rfl, rfl⟩
    · rw [if_pos (of_decide_eq_true b28)] at h
      refine ⟨b28, ?_⟩
      refine ⟨b28, ?_⟩
      refine ⟨b28, ?_⟩
      refine ⟨b28, ?_⟩
      refine ⟨b28, ?_⟩
      refine ⟨rfl, ?_⟩
      refine ⟨fun b29 => ?_, fun b29 => ?_⟩
      · rw [if_neg (ff b29)] at h
        refine ⟨b29, ?_⟩
        refine ⟨trivial, ?_⟩
        refine ⟨trivial, ?_⟩
        refine ⟨(by decide), ?_⟩
        refine ⟨trivial, ?_⟩
        refine ⟨trivial, ?_⟩
        refine ⟨trivial, ?_⟩
        refine ⟨(by decide), ?_⟩
        refine ⟨trivial, ?_⟩
        refine ⟨trivial, ?_⟩
        refine ⟨trivial, ?_⟩
        refine ⟨trivial, ?_⟩
        refine ⟨trivial, ?_⟩
        exact ⟨⟨trivial, trivial, trivial⟩, ih (IntKind.wrap .u64 (Int.tdiv x11 (2 : Int))) (IntKind.wrap .i64 (x12 + (1 : Int))) ((Int.tmod x11 (2 : Int)) == (1 : Int)) x13 r h⟩
      · rw [if_pos b29] at h
        refine ⟨b29, ?_⟩
        refine ⟨trivial, ?_⟩
        refine ⟨trivial, ?_⟩
        refine ⟨(by decide), ?_⟩
        refine ⟨trivial, ?_⟩
        refine ⟨trivial, ?_⟩
        refine ⟨trivial, ?_⟩
        refine ⟨(by decide), ?_⟩
        refine ⟨trivial, ?_⟩
        refine ⟨trivial, ?_⟩
        refine ⟨trivial, ?_⟩
        refine ⟨trivial, ?_⟩
        refine ⟨trivial, ?_⟩
        exact ⟨⟨trivial, trivial, trivial⟩, ih (IntKind.wrap .u64 (Int.tdiv x11 (2 : Int))) (IntKind.wrap .i64 (x12 + (1 : Int))) ((Int.tmod x11 (2 : Int)) == (1 : Int)) true r h⟩
def halterref02_Round.l1 (t27 : Int × Int × Bool × Bool) (a0 : Bool) (a3 : Bool) : Nat → Int → Int → Option (Int × Int)
  | 0, _, _ => none
  | n + 1, x49, x50 =>
    if x49 > (0 : Int) then
      if x49 < (4503599627370496 : Int) then
        if x50 > (-1074 : Int) then
          if ¬ (t27.2.2.1 = true) then
            if ¬ (t27.2.2.2 = true) then
              halterref02_Round.l1 t27 a0 a3 n (IntKind.wrap .u64 ((2 : Int) * x49)) (IntKind.wrap .i64 (x50 - (1 : Int)))
            else
              some (x49, x50)
          else
            some (x49, x50)
        else
          some (x49, x50)
      else
        some (x49, x50)
    else
      some (x49, x50)
def halterref02_Round.l1_S (t27 : Int × Int × Bool × Bool) (a0 : Bool) (a3 : Bool) (x49 : Int) (x50 : Int) : St := ⟨[.any, .v (.one (.ptr 0 ⟨0, 0, 0, 0⟩)), .any, .v (.one (.sc (.bool t27.2.2.1))), .v (.one (.sc (.bool t27.2.2.2))), .any, .any, .any, .any, .any, .any, .any, .any, .any, .any, .any, .any, .any, .any, .any, .any, .any, .any, .any, .any, .any, .any, .any, .any, .any, .any, .any, .any, .any, .any, .any, .any, .any, .any, .any, .any, .any, .any, .any, .any, .any, .any, .any, .any, .any, .any, .any, .any, .any, .any, .any, .any, .any, .any, .any, .any, .any, .any, .any, .any, .any, .any, .any, .any, .any, .any, .any, .any, .any, .any, .any, .any, .any, .any, .any, .any, .any, .any, .any, .any, .any, .any, .any, .any, .any, .any, .any, .any, .any, .any, .any, .any, .any, .any, .any, .any, .any, .any, .any, .any, .any, .any, .any, .any, .any, .any, .any, .any, .any, .any, .any, .any, .any, .any, .any, .any, .any, .any, .any, .any, .any, .any, .any, .any], [.ex false [.c (.sc (.bool a0)), .c (.sc (.int .u64 x49)), .c (.sc (.int .i64 x50)), .c (.sc (.bool a3))] 44], 0⟩
def halterref02_Round.l1_Q (t27 : Int × Int × Bool × Bool) (a0 : Bool) (a3 : Bool) (t : Int × Int) : Exit → St → Prop := fun e s => e = (.exit 2) ∧ s = ⟨[.any, .v (.one (.ptr 0 ⟨0, 0, 0, 0⟩)), .any, .v (.one (.sc (.bool t27.2.2.1))), .v (.one (.sc (.bool t27.2.2.2))), .any, .any, .any, .any, .any, .any, .any, .any, .any, .any, .any, .any, .any, .any, .any, .any, .any, .any, .any, .any, .any, .any, .any, .any, .any, .any, .any, .any, .any, .any, .any, .any, .any, .any, .any, .any, .any, .any, .any, .any, .any, .any, .any, .any, .any, .any, .any, .any, .any, .any, .any, .any, .any, .any, .any, .any, .any, .any, .any, .any, .any, .any, .any, .any, .any, .any, .any, .any, .any, .any, .any, .any, .any, .any, .any, .any, .any, .any, .any, .any, .any, .any, .any, .any, .any, .any, .any, .any, .any, .any, .any, .any, .any, .any, .any, .any, .any, .any, .any, .any, .any, .any, .any, .any, .any, .any, .any, .any, .any, .any, .any, .any, .any, .any, .any, .any, .any, .any, .any, .any, .any, .any, .any, .any], [.ex false [.c (.sc (.bool a0)), .c (.sc (.int .u64 t.1)), .c (.sc (.int .i64 t.2)), .c (.sc (.bool a3))] 44], 0⟩
theorem halterref02_Round.l1_ok (t27 : Int × Int × Bool × Bool) (a0 : Bool) (a3 : Bool) : ∀ (n : Nat) (x49 : Int) (x50 : Int) (r : Int × Int), halterref02_Round.l1 t27 a0 a3 n x49 x50 = some r → TripN cfg (cpath (Try.f43.body.getD .skip) [1, 1, 1, 0, 0, 0]) n (halterref02_Round.l1_S t27 a0 a3 x49 x50) (halterref02_Round.l1_Q t27 a0 a3 r) := by
  intro n
  induction n with
  | zero => intro x49 x50 r h; cases h
  | succ n ih =>
    intro x49 x50 r h
    rw [halterref02_Round.l1] at h
    refine TripN.of_run cfg_ok (k := (.br (.one true (.one true (.one true (.br (.one true (.one true (.one true (.br (.one true (.one true (.br (.one true (.one true (.br (.adj [] (.adj [] (.adj [] (.adj [] (.adj [.keep [1, 3, 4], .drop 1] .nil))))) (.adj [.keep [1, 3, 4], .drop 1] .nil)))) (.one false (.one false (.one false (.adj [.keep [1, 3, 4], .drop 1] .nil))))))) (.one false (.one false (.one false (.one false (.one false (.one false (.adj [.keep [1, 3, 4], .drop 1] .nil))))))))))) (.one false (.one false (.one false (.one false (.one false (.one false (.one false (.one false (.one false (.one false (.adj [.keep [1, 3, 4], .drop 1] .nil))))))))))))))) (.one false (.one false (.one false (.one false (.one false (.one false (.one false (.one false (.one false (.one false (.one false (.one false (.one false (.one false (.adj [.keep [1, 3, 4], .drop 1] .nil))))))))))))))))) (to_goal (q := (True) ∧ (True) ∧ (((decide (x49 > (0 : Int))) = true → ((decide (x49 > (0 : Int))) = true ∧ (True) ∧ ((decide (x49 > (0 : Int))) = true ∧ (True) ∧ ((decide (x49 > (0 : Int))) = true ∧ (((decide (x49 < (4503599627370496 : Int))) = true → ((decide (x49 < (4503599627370496 : Int))) = true ∧ (True) ∧ ((decide (x49 < (4503599627370496 : Int))) = true ∧ (True) ∧ ((decide (x49 < (4503599627370496 : Int))) = true ∧ (((decide (x50 > (-1074 : Int))) = true → ((decide (x50 > (-1074 : Int))) = true ∧ ((decide (x50 > (-1074 : Int))) = true ∧ (((!(p2 t27)) = true → ((!(p2 t27)) = true ∧ ((!(p2 t27)) = true ∧ (((!(z3 t27)) = true → (True ∧ (True ∧ (True ∧ (True) ∧ (True) ∧ (True) ∧ (True ∧ (True) ∧ (True) ∧ (True) ∧ (((True) ∧ (True) ∧ True) ∧ TripN cfg (cpath (Try.f43.body.getD .skip) [1, 1, 1, 0, 0, 0]) n (halterref02_Round.l1_S t27 a0 a3 (IntKind.wrap .u64 ((2 : Int) * x49)) (IntKind.wrap .i64 (x50 - (1 : Int)))) (halterref02_Round.l1_Q t27 a0 a3 r))))))) ∧ ((!(z3 t27)) = false → (((True) ∧ (True) ∧ True) ∧ halterref02_Round.l1_Q t27 a0 a3 r (.exit 2) ⟨[.any, .v (.one (.ptr 0 ⟨0, 0, 0, 0⟩)), .any, .v (.one (.sc (.bool (p2 t27)))), .v (.one (.sc (.bool (z3 t27)))), .any, .any, .any, .any, .any, .any, .any, .any, .any, .any, .any, .any, .any, .any, .any, .any, .any, .any, .any, .any, .any, .any, .any, .any, .any, .any, .any, .any, .any, .any, .any, .any, .any, .any, .any, .any, .any, .any, .any, .any, .any, .any, .any, .any, .any, .any, .any, .any, .any, .any, .any, .any, .any, .any, .any, .any, .any, .any, .any, .any, .any, .any, .any, .any, .any, .any, .any, .any, .any, .any, .any, .any, .any, .any, .any, .any, .any, .any, .any, .any, .any, .any, .any, .any, .any, .any, .any, .any, .any, .any, .any, .any, .any, .any, .any, .any, .any, .any, .any, .any, .any, .any, .any, .any, .any, .any, .any, .any, .any, .any, .any, .any, .any, .any, .any, .any, .any, .any, .any, .any, .any, .any, .any, .any], [.ex false [.c (.sc (.bool a0)), .c (.sc (.int .u64 x49)), .c (.sc (.int .i64 x50)), .c (.sc (.bool a3))] 44], 0⟩)))))) ∧ ((!(p2 t27)) = false → ((!(p2 t27)) = false ∧ ((!(p2 t27)) = false ∧ (false = false ∧ (((True) ∧ (True) ∧ True) ∧ halterref02_Round.l1_Q t27 a0 a3 r (.exit 2) ⟨[.any, .v (.one (.ptr 0 ⟨0, 0, 0, 0⟩)), .any, .v (.one (.sc (.bool (p2 t27)))), .v (.one (.sc (.bool (z3 t27)))), .any, .any, .any, .any, .any, .any, .any, .any, .any, .any, .any, .any, .any, .any, .any, .any, .any, .any, .any, .any, .any, .any, .any, .any, .any, .any, .any, .any, .any, .any, .any, .any, .any, .any, .any, .any, .any, .any, .any, .any, .any, .any, .any, .any, .any, .any, .any, .any, .any, .any, .any, .any, .any, .any, .any, .any, .any, .any, .any, .any, .any, .any, .any, .any, .any, .any, .any, .any, .any, .any, .any, .any, .any, .any, .any, .any, .any, .any, .any, .any, .any, .any, .any, .any, .any, .any, .any, .any, .any, .any, .any, .any, .any, .any, .any, .any, .any, .any, .any, .any, .any, .any, .any, .any, .any, .any, .any, .any, .any, .any, .any, .any, .any, .any, .any, .any, .any, .any, .any, .any, .any, .any, .any, .any], [.ex false [.c (.sc (.bool a0)), .c (.sc (.int .u64 x49)), .c (.sc (.int .i64 x50)), .c (.sc (.bool a3))] 44], 0⟩))))))))) ∧ ((decide (x50 > (-1074 : Int))) = false → ((decide (x50 > (-1074 : Int))) = false ∧ ((decide (x50 > (-1074 : Int))) = false ∧ (false = false ∧ (false = false ∧ (false = false ∧ (false = false ∧ (((True) ∧ (True) ∧ True) ∧ halterref02_Round.l1_Q t27 a0 a3 r (.exit 2) ⟨[.any, .v (.one (.ptr 0 ⟨0, 0, 0, 0⟩)), .any, .v (.one (.sc (.bool (p2 t27)))), .v (.one (.sc (.bool (z3 t27)))), .any, .any, .any, .any, .any, .any, .any, .any, .any, .any, .any, .any, .any, .any, .any, .any, .any, .any, .any, .any, .any, .any, .any, .any, .any, .any, .any, .any, .any, .any, .any, .any, .any, .any, .any, .any, .any, .any, .any, .any, .any, .any, .any, .any, .any, .any, .any, .any, .any, .any, .any, .any, .any, .any, .any, .any, .any, .any, .any, .any, .any, .any, .any, .any, .any, .any, .any, .any, .any, .any, .any, .any, .any, .any, .any, .any, .any, .any, .any, .any, .any, .any, .any, .any, .any, .any, .any, .any, .any, .any, .any, .any, .any, .any, .any, .any, .any, .any, .any, .any, .any, .any, .any, .any, .any, .any, .any, .any, .any, .any, .any, .any, .any, .any, .any, .any, .any, .any, .any, .any, .any, .any, .any, .any], [.ex false [.c (.sc (.bool a0)), .c (.sc (.int .u64 x49)), .c (.sc (.int .i64 x50)), .c (.sc (.bool a3))] 44], 0⟩))))))))))))) ∧ ((decide (x49 < (4503599627370496 : Int))) = false → ((decide (x49 < (4503599627370496 : Int))) = false ∧ ((decide (x49 < (4503599627370496 : Int))) = false ∧ ((decide (x49 < (4503599627370496 : Int))) = false ∧ (false = false ∧ (false = false ∧ (false = false ∧ (false = false ∧ (false = false ∧ (false = false ∧ (false = false ∧ (((True) ∧ (True) ∧ True) ∧ halterref02_Round.l1_Q t27 a0 a3 r (.exit 2) ⟨[.any, .v (.one (.ptr 0 ⟨0, 0, 0, 0⟩)), .any, .v (.one (.sc (.bool (p2 t27)))), .v (.one (.sc (.bool (z3 t27)))), .any, .any, .any, .any, .any, .any, .any, .any, .any, .any, .any, .any, .any, .any, .any, .any, .any, .any, .any, .any, .any, .any, .any, .any, .any, .any, .any, .any, .any, .any, .any, .any, .any, .any, .any, .any, .any, .any, .any, .any, .any, .any, .any, .any, .any, .any, .any, .any, .any, .any, .any, .any, .any, .any, .any, .any, .any, .any, .any, .any, .any, .any, .any, .any, .any, .any, .any, .any, .any, .any, .any, .any, .any, .any, .any, .any, .any, .any, .any, .any, .any, .any, .any, .any, .any, .any, .any, .any, .any, .any, .any, .any, .any, .any, .any, .any, .any, .any, .any, .any, .any, .any, .any, .any, .any, .any, .any, .any, .any, .any, .any, .any, .any, .any, .any, .any, .any, .any, .any, .any, .any, .any, .any, .any], [.ex false [.c (.sc (.bool a0)), .c (.sc (.int .u64 x49)), .c (.sc (.int .i64 x50)), .c (.sc (.bool a3))] 44], 0⟩))))))))))))))))) ∧ ((decide (x49 > (0 : Int))) = false → ((decide (x49 > (0 : Int))) = false ∧ ((decide (x49 > (0 : Int))) = false ∧ ((decide (x49 > (0 : Int))) = false ∧ (false = false ∧ (false = false ∧ (false = false ∧ (false = false ∧ (false = false ∧ (false = false ∧ (false = false ∧ (false = false ∧ (false = false ∧ (false = false ∧ (false = false ∧ (((True) ∧ (True) ∧ True) ∧ halterref02_Round.l1_Q t27 a0 a3 r (.exit 2) ⟨[.any, .v (.one (.ptr 0 ⟨0, 0, 0, 0⟩)), .any, .v (.one (.sc (.bool (p2 t27)))), .v (.one (.sc (.bool (z3 t27)))), .any, .any, .any, .any, .any, .any, .any, .any, .any, .any, .any, .any, .any, .any, .any, .any, .any, .any, .any, .any, .any, .any, .any, .any, .any, .any, .any, .any, .any, .any, .any, .any, .any, .any, .any, .any, .any, .any, .any, .any, .any, .any, .any, .any, .any, .any, .any, .any, .any, .any, .any, .any, .any, .any, .any, .any, .any, .any, .any, .any, .any, .any, .any, .any, .any, .any, .any, .any, .any, .any, .any, .any, .any, .any, .any, .any, .any, .any, .any, .any, .any, .any, .any, .any, .any, .any, .any, .any, .any, .any, .any, .any, .any, .any, .any, .any, .any, .any, .any, .any, .any, .any, .any, .any, .any, .any, .any, .any, .any, .any, .any, .any, .any, .any, .any, .any, .any, .any, .any, .any, .any, .any, .any, .any], [.ex false [.c (.sc (.bool a0)), .c (.sc (.int .u64 x49)), .c (.sc (.int .i64 x50)), .c (.sc (.bool a3))] 44], 0⟩)))))))))))))))))) (by kernel_rfl) ?_)
    refine ⟨trivial, ?_⟩
    refine ⟨trivial, ?_⟩
    refine ⟨fun b59 => ?_, fun b59 => ?_⟩
    · rw [if_pos (of_decide_eq_true b59)] at h
      refine ⟨b59, ?_⟩
      refine ⟨trivial, ?_⟩
      refine ⟨b59, ?_⟩
      refine ⟨trivial, ?_⟩
      refine ⟨b59, ?_⟩
      refine ⟨fun b60 => ?_, fun b60 => ?_⟩
      · rw [if_pos (of_decide_eq_true b60)] at h
        refine ⟨b60, ?_⟩
        refine ⟨trivial, ?_⟩
        refine ⟨b60, ?_⟩
        refine ⟨trivial, ?_⟩
        refine ⟨b60, ?_⟩
        refine ⟨fun b61 => ?_, fun b61 => ?_⟩
        · rw [if_pos (of_decide_eq_true b61)] at h
          refine ⟨b61, ?_⟩
          refine ⟨b61, ?_⟩
          refine ⟨fun b62 => ?_, fun b62 => ?_⟩
          · rw [if_pos (ff (not_t b62))] at h
            refine ⟨b62, ?_⟩
            refine ⟨b62, ?_⟩
            refine ⟨fun b63 => ?_, fun b63 => ?_⟩
            · rw [if_pos (ff (not_t b63))] at h
              refine ⟨trivial, ?_⟩
              refine ⟨trivial, ?_⟩
              refine ⟨trivial, ?_⟩
              refine ⟨trivial, ?_⟩
              refine ⟨trivial, ?_⟩
              refine ⟨trivial, ?_⟩
              refine ⟨trivial, ?_⟩
              refine ⟨trivial, ?_⟩
              refine ⟨trivial, ?_⟩
              refine ⟨trivial, ?_⟩
              exact ⟨⟨trivial, trivial, trivial⟩, ih (IntKind.wrap .u64 ((2 : Int) * x49)) (IntKind.wrap .i64 (x50 - (1 : Int))) r h⟩
            · rw [if_neg (not_not_intro (not_f b63))] at h
              obtain rfl := Option.some.inj h
              exact ⟨⟨trivial, trivial, trivial⟩, rfl, rfl⟩
          · rw [if_neg (not_not_intro (not_f b62))] at h
            refine ⟨b62, ?_⟩
            refine ⟨b62, ?_⟩
            refine ⟨rfl, ?_⟩
            obtain rfl := Option.some.inj h
            exact ⟨⟨trivial, trivial, trivial⟩, rfl, rfl⟩
        · rw [if_neg (of_decide_eq_false b61)] at h
          refine ⟨b61, ?_⟩
          refine ⟨b61, ?_⟩
          refine ⟨rfl, ?_⟩
          refine ⟨rfl, ?_⟩
          refine ⟨rfl, ?_⟩
          refine ⟨rfl, ?_⟩
          obtain rfl := Option.some.inj h
          exact ⟨⟨trivial, trivial, trivial⟩, rfl, rfl⟩
      · rw [if_neg (of_decide_eq_false b60)] at h
        refine ⟨b60, ?_⟩
        refine ⟨b60, ?_⟩
        refine ⟨b60, ?_⟩
        refine ⟨rfl, ?_⟩
        refine ⟨rfl, ?_⟩
        refine ⟨rfl, ?_⟩
        refine ⟨rfl, ?_⟩
        refine ⟨rfl, ?_⟩
        refine ⟨rfl, ?_⟩
        refine ⟨rfl, ?_⟩
        obtain rfl := Option.some.inj h
        exact ⟨⟨trivial, trivial, trivial⟩, rfl, rfl⟩
    · rw [if_neg (of_decide_eq_false b59)] at h
      refine ⟨b59, ?_⟩
      refine ⟨b59, ?_⟩
      refine ⟨b59, ?_⟩
      refine ⟨rfl, ?_⟩
      refine ⟨rfl, ?_⟩
      refine ⟨rfl, ?_⟩
      refine ⟨rfl, ?_⟩
      refine ⟨rfl, ?_⟩
      refine ⟨rfl, ?_⟩
      refine ⟨rfl, ?_⟩
      refine ⟨rfl, ?_⟩
      refine ⟨rfl, ?_⟩
      refine ⟨rfl, ?_⟩
      refine ⟨rfl, ?_⟩
      obtain rfl := Option.some.inj h
      exact ⟨⟨trivial, trivial, trivial⟩, rfl, rfl⟩
def halterref02_Round.f (a0 : Bool) (a1 : Int) (a2 : Int) (a3 : Bool) : Option Int :=
  (halterref02_Round.l0 a0 a3 FUEL a1 a2 false a3).bind fun t27 =>
  (halterref02_Round.l1 t27 a0 a3 FUEL t27.1 t27.2.1).bind fun t58 =>
  if t27.2.2.1 = true then
    if t27.2.2.2 = true then
      if (IntKind.wrap .u64 (t58.1 + (1 : Int))) = (9007199254740992 : Int) then
        if (IntKind.wrap .u64 (Int.tdiv (IntKind.wrap .u64 (t58.1 + (1 : Int))) (2 : Int))) = (0 : Int) then
          (halterref02_signed.f a0 (0 : Int)).bind fun t72 =>
          some t72
        else
          if (IntKind.wrap .u64 (Int.tdiv (IntKind.wrap .u64 (t58.1 + (1 : Int))) (2 : Int))) < (4503599627370496 : Int) then
            (halterref02_signed.f a0 (IntKind.wrap .u64 (Int.tdiv (IntKind.wrap .u64 (t58.1 + (1 : Int))) (2 : Int)))).bind fun t74 =>
            some t74
          else
            if (IntKind.wrap .i64 ((IntKind.wrap .i64 (t58.2 + (1 : Int))) + (1075 : Int))) ≥ (2047 : Int) then
              (halterref02_signed.f a0 (9218868437227405312 : Int)).bind fun t76 =>
              some t76
            else
              (halterref02_signed.f a0 (IntKind.wrap .u64 ((IntKind.wrap .u64 ((IntKind.wrap .u64 ((IntKind.wrap .u64 ((IntKind.wrap .i64 ((IntKind.wrap .i64 (t58.2 + (1 : Int))) + (1075 : Int))))) * (4503599627370496 : Int))) + (IntKind.wrap .u64 (Int.tdiv (IntKind.wrap .u64 (t58.1 + (1 : Int))) (2 : Int))))) - (4503599627370496 : Int)))).bind fun t77 =>
              some t77
      else
        if (IntKind.wrap .u64 (t58.1 + (1 : Int))) = (0 : Int) then
          (halterref02_signed.f a0 (0 : Int)).bind fun t79 =>
          some t79
        else
          if (IntKind.wrap .u64 (t58.1 + (1 : Int))) < (4503599627370496 : Int) then
            (halterref02_signed.f a0 (IntKind.wrap .u64 (t58.1 + (1 : Int)))).bind fun t81 =>
            some t81
          else
            if (IntKind.wrap .i64 (t58.2 + (1075 : Int))) ≥ (2047 : Int) then
              (halterref02_signed.f a0 (9218868437227405312 : Int)).bind fun t83 =>
              some t83
            else
              (halterref02_signed.f a0 (IntKind.wrap .u64 ((IntKind.wrap .u64 ((IntKind.wrap .u64 ((IntKind.wrap .u64 ((IntKind.wrap .i64 (t58.2 + (1075 : Int))))) * (4503599627370496 : Int))) + (IntKind.wrap .u64 (t58.1 + (1 : Int))))) - (4503599627370496 : Int)))).bind fun t84 =>
              some t84
    else
      if (Int.tmod t58.1 (2 : Int)) = (1 : Int) then
        if (IntKind.wrap .u64 (t58.1 + (1 : Int))) = (9007199254740992 : Int) then
          if (IntKind.wrap .u64 (Int.tdiv (IntKind.wrap .u64 (t58.1 + (1 : Int))) (2 : Int))) = (0 : Int) then
            (halterref02_signed.f a0 (0 : Int)).bind fun t88 =>
            some t88
          else
            if (IntKind.wrap .u64 (Int.tdiv (IntKind.wrap .u64 (t58.1 + (1 : Int))) (2 : Int))) < (4503599627370496 : Int) then
              (halterref02_signed.f a0 (IntKind.wrap .u64 (Int.tdiv (IntKind.wrap .u64 (t58.1 + (1 : Int))) (2 : Int)))).bind fun t90 =>
              some t90
            else
              if (IntKind.wrap .i64 ((IntKind.wrap .i64 (t58.2 + (1 : Int))) + (1075 : Int))) ≥ (2047 : Int) then
                (halterref02_signed.f a0 (9218868437227405312 : Int)).bind fun t92 =>
                some t92
              else
                (halterref02_signed.f a0 (IntKind.wrap .u64 ((IntKind.wrap .u64 ((IntKind.wrap .u64 ((IntKind.wrap .u64 ((IntKind.wrap .i64 ((IntKind.wrap .i64 (t58.2 + (1 : Int))) + (1075 : Int))))) * (4503599627370496 : Int))) + (IntKind.wrap .u64 (Int.tdiv (IntKind.wrap .u64 (t58.1 + (1 : Int))) (2 : Int))))) - (4503599627370496 : Int)))).bind fun t93 =>
                some t93
        else
          if (IntKind.wrap .u64 (t58.1 + (1 : Int))) = (0 : Int) then
            (halterref02_signed.f a0 (0 : Int)).bind fun t95 =>
            some t95
          else
            if (IntKind.wrap .u64 (t58.1 + (1 : Int))) < (4503599627370496 : Int) then
              (halterref02_signed.f a0 (IntKind.wrap .u64 (t58.1 + (1 : Int)))).bind fun t97 =>
              some t97
            else
              if (IntKind.wrap .i64 (t58.2 + (1075 : Int))) ≥ (2047 : Int) then
                (halterref02_signed.f a0 (9218868437227405312 : Int)).bind fun t99 =>
                some t99
              else
                (halterref02_signed.f a0 (IntKind.wrap .u64 ((IntKind.wrap .u64 ((IntKind.wrap .u64 ((IntKind.wrap .u64 ((IntKind.wrap .i64 (t58.2 + (1075 : Int))))) * (4503599627370496 : Int))) + (IntKind.wrap .u64 (t58.1 + (1 : Int))))) - (4503599627370496 : Int)))).bind fun t100 =>
                some t100
      else
        if t58.1 = (9007199254740992 : Int) then
          if (IntKind.wrap .u64 (Int.tdiv t58.1 (2 : Int))) = (0 : Int) then
            (halterref02_signed.f a0 (0 : Int)).bind fun t103 =>
            some t103
          else
            if (IntKind.wrap .u64 (Int.tdiv t58.1 (2 : Int))) < (4503599627370496 : Int) then
              (halterref02_signed.f a0 (IntKind.wrap .u64 (Int.tdiv t58.1 (2 : Int)))).bind fun t105 =>
              some t105
            else
              if (IntKind.wrap .i64 ((IntKind.wrap .i64 (t58.2 + (1 : Int))) + (1075 : Int))) ≥ (2047 : Int) then
                (halterref02_signed.f a0 (9218868437227405312 : Int)).bind fun t107 =>
                some t107
              else
                (halterref02_signed.f a0 (IntKind.wrap .u64 ((IntKind.wrap .u64 ((IntKind.wrap .u64 ((IntKind.wrap .u64 ((IntKind.wrap .i64 ((IntKind.wrap .i64 (t58.2 + (1 : Int))) + (1075 : Int))))) * (4503599627370496 : Int))) + (IntKind.wrap .u64 (Int.tdiv t58.1 (2 : Int))))) - (4503599627370496 : Int)))).bind fun t108 =>
                some t108
        else
          if t58.1 = (0 : Int) then
            (halterref02_signed.f a0 (0 : Int)).bind fun t110 =>
            some t110
          else
            if t58.1 < (4503599627370496 : Int) then
              (halterref02_signed.f a0 t58.1).bind fun t112 =>
              some t112
            else
              if (IntKind.wrap .i64 (t58.2 + (1075 : Int))) ≥ (2047 : Int) then
                (halterref02_signed.f a0 (9218868437227405312 : Int)).bind fun t114 =>
                some t114
              else
                (halterref02_signed.f a0 (IntKind.wrap .u64 ((IntKind.wrap .u64 ((IntKind.wrap .u64 ((IntKind.wrap .u64 ((IntKind.wrap .i64 (t58.2 + (1075 : Int))))) * (4503599627370496 : Int))) + t58.1)) - (4503599627370496 : Int)))).bind fun t115 =>
                some t115
  else
    if t58.1 = (9007199254740992 : Int) then
      if (IntKind.wrap .u64 (Int.tdiv t58.1 (2 : Int))) = (0 : Int) then
        (halterref02_signed.f a0 (0 : Int)).bind fun t118 =>
        some t118
      else
        if (IntKind.wrap .u64 (Int.tdiv t58.1 (2 : Int))) < (4503599627370496 : Int) then
          (halterref02_signed.f a0 (IntKind.wrap .u64 (Int.tdiv t58.1 (2 : Int)))).bind fun t120 =>
          some t120
        else
          if (IntKind.wrap .i64 ((IntKind.wrap .i64 (t58.2 + (1 : Int))) + (1075 : Int))) ≥ (2047 : Int) then
            (halterref02_signed.f a0 (9218868437227405312 : Int)).bind fun t122 =>
            some t122
          else
            (halterref02_signed.f a0 (IntKind.wrap .u64 ((IntKind.wrap .u64 ((IntKind.wrap .u64 ((IntKind.wrap .u64 ((IntKind.wrap .i64 ((IntKind.wrap .i64 (t58.2 + (1 : Int))) + (1075 : Int))))) * (4503599627370496 : Int))) + (IntKind.wrap .u64 (Int.tdiv t58.1 (2 : Int))))) - (4503599627370496 : Int)))).bind fun t123 =>
            some t123
    else
      if t58.1 = (0 : Int) then
        (halterref02_signed.f a0 (0 : Int)).bind fun t125 =>
        some t125
      else
        if t58.1 < (4503599627370496 : Int) then
          (halterref02_signed.f a0 t58.1).bind fun t127 =>
          some t127
        else
          if (IntKind.wrap .i64 (t58.2 + (1075 : Int))) ≥ (2047 : Int) then
            (halterref02_signed.f a0 (9218868437227405312 : Int)).bind fun t129 =>
            some t129
          else
            (halterref02_signed.f a0 (IntKind.wrap .u64 ((IntKind.wrap .u64 ((IntKind.wrap .u64 ((IntKind.wrap .u64 ((IntKind.wrap .i64 (t58.2 + (1075 : Int))))) * (4503599627370496 : Int))) + t58.1)) - (4503599627370496 : Int)))).bind fun t130 =>
            some t130
def halterref02_Round.R (r : Int) : Tm := .v (.one (.sc (.int .u64 r)))
theorem halterref02_Round.fun_ {a0 : Bool} {a1 : Int} {a2 : Int} {a3 : Bool} {r : Int} (h : halterref02_Round.f a0 a1 a2 a3 = some r) : Fun cfg 43 [.agg [.c (.sc (.bool a0)), .c (.sc (.int .u64 a1)), .c (.sc (.int .i64 a2)), .c (.sc (.bool a3))]] [] (halterref02_Round.R r) [] := by
  unfold halterref02_Round.f at h
  refine fun_of_run cfg_ok (f := 43) (fn := Try.f43) Try.func43 rfl (by kernel_rfl) (rs := [.tmp 2]) rfl (nt := 129) rfl (l := fin) (k := (.dr [(0, dN), (2, dN), (1, dN), (3, dN)] (.adj [] (.adj [.keep [1, 3, 4]] (.sub (Int × Int × Bool × Bool) (fun _ => (.exit 0)) (fun t27 => ⟨[.any, .v (.one (.ptr 0 ⟨0, 0, 0, 0⟩)), .any, .v (.one (.sc (.bool (p2 t27)))), .v (.one (.sc (.bool (z3 t27)))), .any, .any, .any, .any, .any, .any, .any, .any, .any, .any, .any, .any, .any, .any, .any, .any, .any, .any, .any, .any, .any, .any, .any, .any, .any, .any, .any, .any, .any, .any, .any, .any, .any, .any, .any, .any, .any, .any, .any, .any, .any, .any, .any, .any, .any, .any, .any, .any, .any, .any, .any, .any, .any, .any, .any, .any, .any, .any, .any, .any, .any, .any, .any, .any, .any, .any, .any, .any, .any, .any, .any, .any, .any, .any, .any, .any, .any, .any, .any, .any, .any, .any, .any, .any, .any, .any, .any, .any, .any, .any, .any, .any, .any, .any, .any, .any, .any, .any, .any, .any, .any, .any, .any, .any, .any, .any, .any, .any, .any, .any, .any, .any, .any, .any, .any, .any, .any, .any, .any, .any, .any, .any, .any, .any], [.ex false [.c (.sc (.bool a0)), .c (.sc (.int .u64 t27.1)), .c (.sc (.int .i64 t27.2.1)), .c (.sc (.bool a3))] 44], 0⟩) (fun t27 => (.adj [] (.adj [.keep [1, 3, 4]] (.sub (Int × Int) (fun _ => (.exit 2)) (fun t58 => ⟨[.any, .v (.one (.ptr 0 ⟨0, 0, 0, 0⟩)), .any, .v (.one (.sc (.bool (p2 t27)))), .v (.one (.sc (.bool (z3 t27)))), .any, .any, .any, .any, .any, .any, .any, .any, .any, .any, .any, .any, .any, .any, .any, .any, .any, .any, .any, .any, .any, .any, .any, .any, .any, .any, .any, .any, .any, .any, .any, .any, .any, .any, .any, .any, .any, .any, .any, .any, .any, .any, .any, .any, .any, .any, .any, .any, .any, .any, .any, .any, .any, .any, .any, .any, .any, .any, .any, .any, .any, .any, .any, .any, .any, .any, .any, .any, .any, .any, .any, .any, .any, .any, .any, .any, .any, .any, .any, .any, .any, .any, .any, .any, .any, .any, .any, .any, .any, .any, .any, .any, .any, .any, .any, .any, .any, .any, .any, .any, .any, .any, .any, .any, .any, .any, .any, .any, .any, .any, .any, .any, .any, .any, .any, .any, .any, .any, .any, .any, .any, .any, .any, .any], [.ex false [.c (.sc (.bool a0)), .c (.sc (.int .u64 t58.1)), .c (.sc (.int .i64 t58.2)), .c (.sc (.bool a3))] 44], 0⟩) (fun t58 => (.br (.one true (.br (.one true (.one true (.one true (.one true (.one true (.one true (.one true (.br (.br (.call true [] (Int) (fun t72 => halterref02_signed.R t72) (fun t72 => (.adj [] (.adj [.drop 0] .nil)))) (.br (.call true [] (Int) (fun t74 => halterref02_signed.R t74) (fun t74 => (.adj [] (.adj [.drop 0] .nil)))) (.br (.call true [] (Int) (fun t76 => halterref02_signed.R t76) (fun t76 => (.adj [] (.adj [.drop 0] .nil)))) (.call true [] (Int) (fun t77 => halterref02_signed.R t77) (fun t77 => (.adj [] (.adj [.drop 0] .nil))))))) (.br (.call true [] (Int) (fun t79 => halterref02_signed.R t79) (fun t79 => (.adj [] (.adj [.drop 0] .nil)))) (.br (.call true [] (Int) (fun t81 => halterref02_signed.R t81) (fun t81 => (.adj [] (.adj [.drop 0] .nil)))) (.br (.call true [] (Int) (fun t83 => halterref02_signed.R t83) (fun t83 => (.adj [] (.adj [.drop 0] .nil)))) (.call true [] (Int) (fun t84 => halterref02_signed.R t84) (fun t84 => (.adj [] (.adj [.drop 0] .nil))))))))))))))) (.one false (.one false (.one false (.one true (.one false (.one true (.br (.br (.br (.call true [] (Int) (fun t88 => halterref02_signed.R t88) (fun t88 => (.adj [] (.adj [.drop 0] .nil)))) (.br (.call true [] (Int) (fun t90 => halterref02_signed.R t90) (fun t90 => (.adj [] (.adj [.drop 0] .nil)))) (.br (.call true [] (Int) (fun t92 => halterref02_signed.R t92) (fun t92 => (.adj [] (.adj [.drop 0] .nil)))) (.call true [] (Int) (fun t93 => halterref02_signed.R t93) (fun t93 => (.adj [] (.adj [.drop 0] .nil))))))) (.br (.call true [] (Int) (fun t95 => halterref02_signed.R t95) (fun t95 => (.adj [] (.adj [.drop 0] .nil)))) (.br (.call true [] (Int) (fun t97 => halterref02_signed.R t97) (fun t97 => (.adj [] (.adj [.drop 0] .nil)))) (.br (.call true [] (Int) (fun t99 => halterref02_signed.R t99) (fun t99 => (.adj [] (.adj [.drop 0] .nil)))) (.call true [] (Int) (fun t100 => halterref02_signed.R t100) (fun t100 => (.adj [] (.adj [.drop 0] .nil)))))))) (.br (.br (.call true [] (Int) (fun t103 => halterref02_signed.R t103) (fun t103 => (.adj [] (.adj [.drop 0] .nil)))) (.br (.call true [] (Int) (fun t105 => halterref02_signed.R t105) (fun t105 => (.adj [] (.adj [.drop 0] .nil)))) (.br (.call true [] (Int) (fun t107 => halterref02_signed.R t107) (fun t107 => (.adj [] (.adj [.drop 0] .nil)))) (.call true [] (Int) (fun t108 => halterref02_signed.R t108) (fun t108 => (.adj [] (.adj [.drop 0] .nil))))))) (.br (.call true [] (Int) (fun t110 => halterref02_signed.R t110) (fun t110 => (.adj [] (.adj [.drop 0] .nil)))) (.br (.call true [] (Int) (fun t112 => halterref02_signed.R t112) (fun t112 => (.adj [] (.adj [.drop 0] .nil)))) (.br (.call true [] (Int) (fun t114 => halterref02_signed.R t114) (fun t114 => (.adj [] (.adj [.drop 0] .nil)))) (.call true [] (Int) (fun t115 => halterref02_signed.R t115) (fun t115 => (.adj [] (.adj [.drop 0] .nil))))))))))))))))) (.one false (.one false (.one false (.one false (.br (.br (.call true [] (Int) (fun t118 => halterref02_signed.R t118) (fun t118 => (.adj [] (.adj [.drop 0] .nil)))) (.br (.call true [] (Int) (fun t120 => halterref02_signed.R t120) (fun t120 => (.adj [] (.adj [.drop 0] .nil)))) (.br (.call true [] (Int) (fun t122 => halterref02_signed.R t122) (fun t122 => (.adj [] (.adj [.drop 0] .nil)))) (.call true [] (Int) (fun t123 => halterref02_signed.R t123) (fun t123 => (.adj [] (.adj [.drop 0] .nil))))))) (.br (.call true [] (Int) (fun t125 => halterref02_signed.R t125) (fun t125 => (.adj [] (.adj [.drop 0] .nil)))) (.br (.call true [] (Int) (fun t127 => halterref02_signed.R t127) (fun t127 => (.adj [] (.adj [.drop 0] .nil)))) (.br (.call true [] (Int) (fun t129 => halterref02_signed.R t129) (fun t129 => (.adj [] (.adj [.drop 0] .nil)))) (.call true [] (Int) (fun t130 => halterref02_signed.R t130) (fun t130 => (.adj [] (.adj [.drop 0] .nil))))))))))))))))))))))) (to_goal (q := (True) ∧ (True ∧ (((True) ∧ True) ∧ (∃ t27 : Int × Int × Bool × Bool, Trip cfg (.loop (cpath (Try.f43.body.getD .skip) [1, 1, 0, 0, 0])) ⟨[.any, .v (.one (.ptr 0 ⟨0, 0, 0, 0⟩)), .any, .v (.one (.sc (.bool false))), .v (.one (.sc (.bool a3))), .any, .any, .any, .any, .any, .any, .any, .any, .any, .any, .any, .any, .any, .any, .any, .any, .any, .any, .any, .any, .any, .any, .any, .any, .any, .any, .any, .any, .any, .any, .any, .any, .any, .any, .any, .any, .any, .any, .any, .any, .any, .any, .any, .any, .any, .any, .any, .any, .any, .any, .any, .any, .any, .any, .any, .any, .any, .any, .any, .any, .any, .any, .any, .any, .any, .any, .any, .any, .any, .any, .any, .any, .any, .any, .any, .any, .any, .any, .any, .any, .any, .any, .any, .any, .any, .any, .any, .any, .any, .any, .any, .any, .any, .any, .any, .any, .any, .any, .any, .any, .any, .any, .any, .any, .any, .any, .any, .any, .any, .any, .any, .any, .any, .any, .any, .any, .any, .any, .any, .any, .any, .any, .any, .any], [.ex false [.c (.sc (.bool a0)), .c (.sc (.int .u64 a1)), .c (.sc (.int .i64 a2)), .c (.sc (.bool a3))] 44], 0⟩ (fun e s => e = (.exit 0) ∧ s = ⟨[.any, .v (.one (.ptr 0 ⟨0, 0, 0, 0⟩)), .any, .v (.one (.sc (.bool (p2 t27)))), .v (.one (.sc (.bool (z3 t27)))), .any, .any, .any, .any, .any, .any, .any, .any, .any, .any, .any, .any, .any, .any, .any, .any, .any, .any, .any, .any, .any, .any, .any, .any, .any, .any, .any, .any, .any, .any, .any, .any, .any, .any, .any, .any, .any, .any, .any, .any, .any, .any, .any, .any, .any, .any, .any, .any, .any, .any, .any, .any, .any, .any, .any, .any, .any, .any, .any, .any, .any, .any, .any, .any, .any, .any, .any, .any, .any, .any, .any, .any, .any, .any, .any, .any, .any, .any, .any, .any, .any, .any, .any, .any, .any, .any, .any, .any, .any, .any, .any, .any, .any, .any, .any, .any, .any, .any, .any, .any, .any, .any, .any, .any, .any, .any, .any, .any, .any, .any, .any, .any, .any, .any, .any, .any, .any, .any, .any, .any, .any, .any, .any, .any], [.ex false [.c (.sc (.bool a0)), .c (.sc (.int .u64 t27.1)), .c (.sc (.int .i64 t27.2.1)), .c (.sc (.bool a3))] 44], 0⟩) ∧ (True ∧ (((True) ∧ True) ∧ (∃ t58 : Int × Int, Trip cfg (.loop (cpath (Try.f43.body.getD .skip) [1, 1, 1, 0, 0, 0])) ⟨[.any, .v (.one (.ptr 0 ⟨0, 0, 0, 0⟩)), .any, .v (.one (.sc (.bool (p2 t27)))), .v (.one (.sc (.bool (z3 t27)))), .any, .any, .any, .any, .any, .any, .any, .any, .any, .any, .any, .any, .any, .any, .any, .any, .any, .any, .any, .any, .any, .any, .any, .any, .any, .any, .any, .any, .any, .any, .any, .any, .any, .any, .any, .any, .any, .any, .any, .any, .any, .any, .any, .any, .any, .any, .any, .any, .any, .any, .any, .any, .any, .any, .any, .any, .any, .any, .any, .any, .any, .any, .any, .any, .any, .any, .any, .any, .any, .any, .any, .any, .any, .any, .any, .any, .any, .any, .any, .any, .any, .any, .any, .any, .any, .any, .any, .any, .any, .any, .any, .any, .any, .any, .any, .any, .any, .any, .any, .any, .any, .any, .any, .any, .any, .any, .any, .any, .any, .any, .any, .any, .any, .any, .any, .any, .any, .any, .any, .any, .any, .any, .any, .any], [.ex false [.c (.sc (.bool a0)), .c (.sc (.int .u64 t27.1)), .c (.sc (.int .i64 t27.2.1)), .c (.sc (.bool a3))] 44], 0⟩ (fun e s => e = (.exit 2) ∧ s = ⟨[.any, .v (.one (.ptr 0 ⟨0, 0, 0, 0⟩)), .any, .v (.one (.sc (.bool (p2 t27)))), .v (.one (.sc (.bool (z3 t27)))), .any, .any, .any, .any, .any, .any, .any, .any, .any, .any, .any, .any, .any, .any, .any, .any, .any, .any, .any, .any, .any, .any, .any, .any, .any, .any, .any, .any, .any, .any, .any, .any, .any, .any, .any, .any, .any, .any, .any, .any, .any, .any, .any, .any, .any, .any, .any, .any, .any, .any, .any, .any, .any, .any, .any, .any, .any, .any, .any, .any, .any, .any, .any, .any, .any, .any, .any, .any, .any, .any, .any, .any, .any, .any, .any, .any, .any, .any, .any, .any, .any, .any, .any, .any, .any, .any, .any, .any, .any, .any, .any, .any, .any, .any, .any, .any, .any, .any, .any, .any, .any, .any, .any, .any, .any, .any, .any, .any, .any, .any, .any, .any, .any, .any, .any, .any, .any, .any, .any, .any, .any, .any, .any, .any], [.ex false [.c (.sc (.bool a0)), .c (.sc (.int .u64 t58.1)), .c (.sc (.int .i64 t58.2)), .c (.sc (.bool a3))] 44], 0⟩) ∧ (((p2 t27) = true → ((p2 t27) = true ∧ (((z3 t27) = false → ((z3 t27) = false ∧ (True) ∧ ((z3 t27) = false ∧ ((2 : Int) ≠ 0) ∧ ((z3 t27) = false ∧ (True) ∧ ((p2 t27) = true ∧ ((z3 t27) = false ∧ ((p2 t27) = true ∧ ((((Int.tmod t58.1 (2 : Int)) == (1 : Int)) = true → (True) ∧ (True) ∧ (True) ∧ (True) ∧ (True) ∧ ((((IntKind.wrap .u64 (t58.1 + (1 : Int))) == (9007199254740992 : Int)) = true → (True) ∧ ((2 : Int) ≠ 0) ∧ (True) ∧ (True) ∧ (True) ∧ (True) ∧ (True) ∧ (True) ∧ ((((IntKind.wrap .u64 (Int.tdiv (IntKind.wrap .u64 (t58.1 + (1 : Int))) (2 : Int))) == (0 : Int)) = true → (True) ∧ (∃ t88 : Int, (Fun cfg 40 [.one (.sc (.bool a0)), .one (.sc (.int .u64 (0 : Int)))] [] (halterref02_signed.R t88) [] ∧ True) ∧ (True ∧ ((True) ∧ ((True) ∧ True) ∧ (.v (.one (.sc (.int .u64 t88))) : Tm) = halterref02_Round.R r ∧ ([] : List Box) = [])))) ∧ (((IntKind.wrap .u64 (Int.tdiv (IntKind.wrap .u64 (t58.1 + (1 : Int))) (2 : Int))) == (0 : Int)) = false → (True) ∧ (True) ∧ (((decide ((IntKind.wrap .u64 (Int.tdiv (IntKind.wrap .u64 (t58.1 + (1 : Int))) (2 : Int))) < (4503599627370496 : Int))) = true → (True) ∧ (True) ∧ (∃ t90 : Int, (Fun cfg 40 [.one (.sc (.bool a0)), .one (.sc (.int .u64 (IntKind.wrap .u64 (Int.tdiv (IntKind.wrap .u64 (t58.1 + (1 : Int))) (2 : Int)))))] [] (halterref02_signed.R t90) [] ∧ True) ∧ (True ∧ ((True) ∧ ((True) ∧ True) ∧ (.v (.one (.sc (.int .u64 t90))) : Tm) = halterref02_Round.R r ∧ ([] : List Box) = [])))) ∧ ((decide ((IntKind.wrap .u64 (Int.tdiv (IntKind.wrap .u64 (t58.1 + (1 : Int))) (2 : Int))) < (4503599627370496 : Int))) = false → (True) ∧ (True) ∧ (True) ∧ (((decide ((IntKind.wrap .i64 ((IntKind.wrap .i64 (t58.2 + (1 : Int))) + (1075 : Int))) ≥ (2047 : Int))) = true → (True) ∧ (∃ t92 : Int, (Fun cfg 40 [.one (.sc (.bool a0)), .one (.sc (.int .u64 (9218868437227405312 : Int)))] [] (halterref02_signed.R t92) [] ∧ True) ∧ (True ∧ ((True) ∧ ((True) ∧ True) ∧ (.v (.one (.sc (.int .u64 t92))) : Tm) = halterref02_Round.R r ∧ ([] : List Box) = [])))) ∧ ((decide ((IntKind.wrap .i64 ((IntKind.wrap .i64 (t58.2 + (1 : Int))) + (1075 : Int))) ≥ (2047 : Int))) = false → (True) ∧ (True) ∧ (True) ∧ (True) ∧ (True) ∧ (True) ∧ (True) ∧ (True) ∧ (∃ t93 : Int, (Fun cfg 40 [.one (.sc (.bool a0)), .one (.sc (.int .u64 (IntKind.wrap .u64 ((IntKind.wrap .u64 ((IntKind.wrap .u64 ((IntKind.wrap .u64 ((IntKind.wrap .i64 ((IntKind.wrap .i64 (t58.2 + (1 : Int))) + (1075 : Int))))) * (4503599627370496 : Int))) + (IntKind.wrap .u64 (Int.tdiv (IntKind.wrap .u64 (t58.1 + (1 : Int))) (2 : Int))))) - (4503599627370496 : Int)))))] [] (halterref02_signed.R t93) [] ∧ True) ∧ (True ∧ ((True) ∧ ((True) ∧ True) ∧ (.v (.one (.sc (.int .u64 t93))) : Tm) = halterref02_Round.R r ∧ ([] : List Box) = [])))))))))) ∧ (((IntKind.wrap .u64 (t58.1 + (1 : Int))) == (9007199254740992 : Int)) = false → (True) ∧ (True) ∧ ((((IntKind.wrap .u64 (t58.1 + (1 : Int))) == (0 : Int)) = true → (True) ∧ (∃ t95 : Int, (Fun cfg 40 [.one (.sc (.bool a0)), .one (.sc (.int .u64 (0 : Int)))] [] (halterref02_signed.R t95) [] ∧ True) ∧ (True ∧ ((True) ∧ ((True) ∧ True) ∧ (.v (.one (.sc (.int .u64 t95))) : Tm) = halterref02_Round.R r ∧ ([] : List Box) = [])))) ∧ (((IntKind.wrap .u64 (t58.1 + (1 : Int))) == (0 : Int)) = false → (True) ∧ (True) ∧ (((decide ((IntKind.wrap .u64 (t58.1 + (1 : Int))) < (4503599627370496 : Int))) = true → (True) ∧ (True) ∧ (∃ t97 : Int, (Fun cfg 40 [.one (.sc (.bool a0)), .one (.sc (.int .u64 (IntKind.wrap .u64 (t58.1 + (1 : Int)))))] [] (halterref02_signed.R t97) [] ∧ True) ∧ (True ∧ ((True) ∧ ((True) ∧ True) ∧ (.v (.one (.sc (.int .u64 t97))) : Tm) = halterref02_Round.R r ∧ ([] : List Box) = [])))) ∧ ((decide ((IntKind.wrap .u64 (t58.1 + (1 : Int))) < (4503599627370496 : Int))) = false → (True) ∧ (True) ∧ (True) ∧ (((decide ((IntKind.wrap .i64 (t58.2 + (1075 : Int))) ≥ (2047 : Int))) = true → (True) ∧ (∃ t99 : Int, (Fun cfg 40 [.one (.sc (.bool a0)), .one (.sc (.int .u64 (9218868437227405312 : Int)))] [] (halterref02_signed.R t99) [] ∧ True) ∧ (True ∧ ((True) ∧ ((True) ∧ True) ∧ (.v (.one (.sc (.int .u64 t99))) : Tm) = halterref02_Round.R r ∧ ([] : List Box) = [])))) ∧ ((decide ((IntKind.wrap .i64 (t58.2 + (1075 : Int))) ≥ (2047 : Int))) = false → (True) ∧ (True) ∧ (True) ∧ (True) ∧ (True) ∧ (True) ∧ (True) ∧ (True) ∧ (∃ t100 : Int, (Fun cfg 40 [.one (.sc (.bool a0)), .one (.sc (.int .u64 (IntKind.wrap .u64 ((IntKind.wrap .u64 ((IntKind.wrap .u64 ((IntKind.wrap .u64 ((IntKind.wrap .i64 (t58.2 + (1075 : Int))))) * (4503599627370496 : Int))) + (IntKind.wrap .u64 (t58.1 + (1 : Int))))) - (4503599627370496 : Int)))))] [] (halterref02_signed.R t100) [] ∧ True) ∧ (True ∧ ((True) ∧ ((True) ∧ True) ∧ (.v (.one (.sc (.int .u64 t100))) : Tm) = halterref02_Round.R r ∧ ([] : List Box) = [])))))))))))) ∧ (((Int.tmod t58.1 (2 : Int)) == (1 : Int)) = false → (True) ∧ (True) ∧ (((t58.1 == (9007199254740992 : Int)) = true → (True) ∧ ((2 : Int) ≠ 0) ∧ (True) ∧ (True) ∧ (True) ∧ (True) ∧ (True) ∧ (True) ∧ ((((IntKind.wrap .u64 (Int.tdiv t58.1 (2 : Int))) == (0 : Int)) = true → (True) ∧ (∃ t103 : Int, (Fun cfg 40 [.one (.sc (.bool a0)), .one (.sc (.int .u64 (0 : Int)))] [] (halterref02_signed.R t103) [] ∧ True) ∧ (True ∧ ((True) ∧ ((True) ∧ True) ∧ (.v (.one (.sc (.int .u64 t103))) : Tm) = halterref02_Round.R r ∧ ([] : List Box) = [])))) ∧ (((IntKind.wrap .u64 (Int.tdiv t58.1 (2 : Int))) == (0 : Int)) = false → (True) ∧ (True) ∧ (((decide ((IntKind.wrap .u64 (Int.tdiv t58.1 (2 : Int))) < (4503599627370496 : Int))) = true → (True) ∧ (True) ∧ (∃ t105 : Int, (Fun cfg 40 [.one (.sc (.bool a0)), .one (.sc (.int .u64 (IntKind.wrap .u64 (Int.tdiv t58.1 (2 : Int)))))] [] (halterref02_signed.R t105) [] ∧ True) ∧ (True ∧ ((True) ∧ ((True) ∧ True) ∧ (.v (.one (.sc (.int .u64 t105))) : Tm) = halterref02_Round.R r ∧ ([] : List Box) = [])))) ∧ ((decide ((IntKind.wrap .u64 (Int.tdiv t58.1 (2 : Int))) < (4503599627370496 : Int))) = false → (True) ∧ (True) ∧ (True) ∧ (((decide ((IntKind.wrap .i64 ((IntKind.wrap .i64 (t58.2 + (1 : Int))) + (1075 : Int))) ≥ (2047 : Int))) = true → (True) ∧ (∃ t107 : Int, (Fun cfg 40 [.one (.sc (.bool a0)), .one (.sc (.int .u64 (9218868437227405312 : Int)))] [] (halterref02_signed.R t107) [] ∧ True) ∧ (True ∧ ((True) ∧ ((True) ∧ True) ∧ (.v (.one (.sc (.int .u64 t107))) : Tm) = halterref02_Round.R r ∧ ([] : List Box) = [])))) ∧ ((decide ((IntKind.wrap .i64 ((IntKind.wrap .i64 (t58.2 + (1 : Int))) + (1075 : Int))) ≥ (2047 : Int))) = false → (True) ∧ (True) ∧ (True) ∧ (True) ∧ (True) ∧ (True) ∧ (True) ∧ (True) ∧ (∃ t108 : Int, (Fun cfg 40 [.one (.sc (.bool a0)), .one (.sc (.int .u64 (IntKind.wrap .u64 ((IntKind.wrap .u64 ((IntKind.wrap .u64 ((IntKind.wrap .u64 ((IntKind.wrap .i64 ((IntKind.wrap .i64 (t58.2 + (1 : Int))) + (1075 : Int))))) * (4503599627370496 : Int))) + (IntKind.wrap .u64 (Int.tdiv t58.1 (2 : Int))))) - (4503599627370496 : Int)))))] [] (halterref02_signed.R t108) [] ∧ True) ∧ (True ∧ ((True) ∧ ((True) ∧ True) ∧ (.v (.one (.sc (.int .u64 t108))) : Tm) = halterref02_Round.R r ∧ ([] : List Box) = [])))))))))) ∧ ((t58.1 == (9007199254740992 : Int)) = false → (True) ∧ (True) ∧ (((t58.1 == (0 : Int)) = true → (True) ∧ (∃ t110 : Int, (Fun cfg 40 [.one (.sc (.bool a0)), .one (.sc (.int .u64 (0 : Int)))] [] (halterref02_signed.R t110) [] ∧ True) ∧ (True ∧ ((True) ∧ ((True) ∧ True) ∧ (.v (.one (.sc (.int .u64 t110))) : Tm) = halterref02_Round.R r ∧ ([] : List Box) = [])))) ∧ ((t58.1 == (0 : Int)) = false → (True) ∧ (True) ∧ (((decide (t58.1 < (4503599627370496 : Int))) = true → (True) ∧ (True) ∧ (∃ t112 : Int, (Fun cfg 40 [.one (.sc (.bool a0)), .one (.sc (.int .u64 t58.1))] [] (halterref02_signed.R t112) [] ∧ True) ∧ (True ∧ ((True) ∧ ((True) ∧ True) ∧ (.v (.one (.sc (.int .u64 t112))) : Tm) = halterref02_Round.R r ∧ ([] : List Box) = [])))) ∧ ((decide (t58.1 < (4503599627370496 : Int))) = false → (True) ∧ (True) ∧ (True) ∧ (((decide ((IntKind.wrap .i64 (t58.2 + (1075 : Int))) ≥ (2047 : Int))) = true → (True) ∧ (∃ t114 : Int, (Fun cfg 40 [.one (.sc (.bool a0)), .one (.sc (.int .u64 (9218868437227405312 : Int)))] [] (halterref02_signed.R t114) [] ∧ True) ∧ (True ∧ ((True) ∧ ((True) ∧ True) ∧ (.v (.one (.sc (.int .u64 t114))) : Tm) = halterref02_Round.R r ∧ ([] : List Box) = [])))) ∧ ((decide ((IntKind.wrap .i64 (t58.2 + (1075 : Int))) ≥ (2047 : Int))) = false → (True) ∧ (True) ∧ (True) ∧ (True) ∧ (True) ∧ (True) ∧ (True) ∧ (True) ∧ (∃ t115 : Int, (Fun cfg 40 [.one (.sc (.bool a0)), .one (.sc (.int .u64 (IntKind.wrap .u64 ((IntKind.wrap .u64 ((IntKind.wrap .u64 ((IntKind.wrap .u64 ((IntKind.wrap .i64 (t58.2 + (1075 : Int))))) * (4503599627370496 : Int))) + t58.1)) - (4503599627370496 : Int)))))] [] (halterref02_signed.R t115) [] ∧ True) ∧ (True ∧ ((True) ∧ ((True) ∧ True) ∧ (.v (.one (.sc (.int .u64 t115))) : Tm) = halterref02_Round.R r ∧ ([] : List Box) = [])))))))))))))))))))) ∧ ((z3 t27) = true → ((z3 t27) = true ∧ ((z3 t27) = true ∧ ((z3 t27) = true ∧ ((p2 t27) = true ∧ ((z3 t27) = true ∧ ((p2 t27) = true ∧ (true = true ∧ (True) ∧ (True) ∧ (True) ∧ (True) ∧ (True) ∧ ((((IntKind.wrap .u64 (t58.1 + (1 : Int))) == (9007199254740992 : Int)) = true → (True) ∧ ((2 : Int) ≠ 0) ∧ (True) ∧ (True) ∧ (True) ∧ (True) ∧ (True) ∧ (True) ∧ ((((IntKind.wrap .u64 (Int.tdiv (IntKind.wrap .u64 (t58.1 + (1 : Int))) (2 : Int))) == (0 : Int)) = true → (True) ∧ (∃ t72 : Int, (Fun cfg 40 [.one (.sc (.bool a0)), .one (.sc (.int .u64 (0 : Int)))] [] (halterref02_signed.R t72) [] ∧ True) ∧ (True ∧ ((True) ∧ ((True) ∧ True) ∧ (.v (.one (.sc (.int .u64 t72))) : Tm) = halterref02_Round.R r ∧ ([] : List Box) = [])))) ∧ (((IntKind.wrap .u64 (Int.tdiv (IntKind.wrap .u64 (t58.1 + (1 : Int))) (2 : Int))) == (0 : Int)) = false → (True) ∧ (True) ∧ (((decide ((IntKind.wrap .u64 (Int.tdiv (IntKind.wrap .u64 (t58.1 + (1 : Int))) (2 : Int))) < (4503599627370496 : Int))) = true → (True) ∧ (True) ∧ (∃ t74 : Int, (Fun cfg 40 [.one (.sc (.bool a0)), .one (.sc (.int .u64 (IntKind.wrap .u64 (Int.tdiv (IntKind.wrap .u64 (t58.1 + (1 : Int))) (2 : Int)))))] [] (halterref02_signed.R t74) [] ∧ True) ∧ (True ∧ ((True) ∧ ((True) ∧ True) ∧ (.v (.one (.sc (.int .u64 t74))) : Tm) = halterref02_Round.R r ∧ ([] : List Box) = [])))) ∧ ((decide ((IntKind.wrap .u64 (Int.tdiv (IntKind.wrap .u64 (t58.1 + (1 : Int))) (2 : Int))) < (4503599627370496 : Int))) = false → (True) ∧ (True) ∧ (True) ∧ (((decide ((IntKind.wrap .i64 ((IntKind.wrap .i64 (t58.2 + (1 : Int))) + (1075 : Int))) ≥ (2047 : Int))) = true → (True) ∧ (∃ t76 : Int, (Fun cfg 40 [.one (.sc (.bool a0)), .one (.sc (.int .u64 (9218868437227405312 : Int)))] [] (halterref02_signed.R t76) [] ∧ True) ∧ (True ∧ ((True) ∧ ((True) ∧ True) ∧ (.v (.one (.sc (.int .u64 t76))) : Tm) = halterref02_Round.R r ∧ ([] : List Box) = [])))) ∧ ((decide ((IntKind.wrap .i64 ((IntKind.wrap .i64 (t58.2 + (1 : Int))) + (1075 : Int))) ≥ (2047 : Int))) = false → (True) ∧ (True) ∧ (True) ∧ (True) ∧ (True) ∧ (True) ∧ (True) ∧ (True) ∧ (∃ t77 : Int, (Fun cfg 40 [.one (.sc (.bool a0)), .one (.sc (.int .u64 (IntKind.wrap .u64 ((IntKind.wrap .u64 ((IntKind.wrap .u64 ((IntKind.wrap .u64 ((IntKind.wrap .i64 ((IntKind.wrap .i64 (t58.2 + (1 : Int))) + (1075 : Int))))) * (4503599627370496 : Int))) + (IntKind.wrap .u64 (Int.tdiv (IntKind.wrap .u64 (t58.1 + (1 : Int))) (2 : Int))))) - (4503599627370496 : Int)))))] [] (halterref02_signed.R t77) [] ∧ True) ∧ (True ∧ ((True) ∧ ((True) ∧ True) ∧ (.v (.one (.sc (.int .u64 t77))) : Tm) = halterref02_Round.R r ∧ ([] : List Box) = [])))))))))) ∧ (((IntKind.wrap .u64 (t58.1 + (1 : Int))) == (9007199254740992 : Int)) = false → (True) ∧ (True) ∧ ((((IntKind.wrap .u64 (t58.1 + (1 : Int))) == (0 : Int)) = true → (True) ∧ (∃ t79 : Int, (Fun cfg 40 [.one (.sc (.bool a0)), .one (.sc (.int .u64 (0 : Int)))] [] (halterref02_signed.R t79) [] ∧ True) ∧ (True ∧ ((True) ∧ ((True) ∧ True) ∧ (.v (.one (.sc (.int .u64 t79))) : Tm) = halterref02_Round.R r ∧ ([] : List Box) = [])))) ∧ (((IntKind.wrap .u64 (t58.1 + (1 : Int))) == (0 : Int)) = false → (True) ∧ (True) ∧ (((decide ((IntKind.wrap .u64 (t58.1 + (1 : Int))) < (4503599627370496 : Int))) = true → (True) ∧ (True) ∧ (∃ t81 : Int, (Fun cfg 40 [.one (.sc (.bool a0)), .one (.sc (.int .u64 (IntKind.wrap .u64 (t58.1 + (1 : Int)))))] [] (halterref02_signed.R t81) [] ∧ True) ∧ (True ∧ ((True) ∧ ((True) ∧ True) ∧ (.v (.one (.sc (.int .u64 t81))) : Tm) = halterref02_Round.R r ∧ ([] : List Box) = [])))) ∧ ((decide ((IntKind.wrap .u64 (t58.1 + (1 : Int))) < (4503599627370496 : Int))) = false → (True) ∧ (True) ∧ (True) ∧ (((decide ((IntKind.wrap .i64 (t58.2 + (1075 : Int))) ≥ (2047 : Int))) = true → (True) ∧ (∃ t83 : Int, (Fun cfg 40 [.one (.sc (.bool a0)), .one (.sc (.int .u64 (9218868437227405312 : Int)))] [] (halterref02_signed.R t83) [] ∧ True) ∧ (True ∧ ((True) ∧ ((True) ∧ True) ∧ (.v (.one (.sc (.int .u64 t83))) : Tm) = halterref02_Round.R r ∧ ([] : List Box) = [])))) ∧ ((decide ((IntKind.wrap .i64 (t58.2 + (1075 : Int))) ≥ (2047 : Int))) = false → (True) ∧ (True) ∧ (True) ∧ (True) ∧ (True) ∧ (True) ∧ (True) ∧ (True) ∧ (∃ t84 : Int, (Fun cfg 40 [.one (.sc (.bool a0)), .one (.sc (.int .u64 (IntKind.wrap .u64 ((IntKind.wrap .u64 ((IntKind.wrap .u64 ((IntKind.wrap .u64 ((IntKind.wrap .i64 (t58.2 + (1075 : Int))))) * (4503599627370496 : Int))) + (IntKind.wrap .u64 (t58.1 + (1 : Int))))) - (4503599627370496 : Int)))))] [] (halterref02_signed.R t84) [] ∧ True) ∧ (True ∧ ((True) ∧ ((True) ∧ True) ∧ (.v (.one (.sc (.int .u64 t84))) : Tm) = halterref02_Round.R r ∧ ([] : List Box) = [])))))))))))))))))))))) ∧ ((p2 t27) = false → ((p2 t27) = false ∧ ((p2 t27) = false ∧ ((p2 t27) = false ∧ (false = false ∧ (True) ∧ (True) ∧ (((t58.1 == (9007199254740992 : Int)) = true → (True) ∧ ((2 : Int) ≠ 0) ∧ (True) ∧ (True) ∧ (True) ∧ (True) ∧ (True) ∧ (True) ∧ ((((IntKind.wrap .u64 (Int.tdiv t58.1 (2 : Int))) == (0 : Int)) = true → (True) ∧ (∃ t118 : Int, (Fun cfg 40 [.one (.sc (.bool a0)), .one (.sc (.int .u64 (0 : Int)))] [] (halterref02_signed.R t118) [] ∧ True) ∧ (True ∧ ((True) ∧ ((True) ∧ True) ∧ (.v (.one (.sc (.int .u64 t118))) : Tm) = halterref02_Round.R r ∧ ([] : List Box) = [])))) ∧ (((IntKind.wrap .u64 (Int.tdiv t58.1 (2 : Int))) == (0 : Int)) = false → (True) ∧ (True) ∧ (((decide ((IntKind.wrap .u64 (Int.tdiv t58.1 (2 : Int))) < (4503599627370496 : Int))) = true → (True) ∧ (True) ∧ (∃ t120 : Int, (Fun cfg 40 [.one (.sc (.bool a0)), .one (.sc (.int .u64 (IntKind.wrap .u64 (Int.tdiv t58.1 (2 : Int)))))] [] (halterref02_signed.R t120) [] ∧ True) ∧ (True ∧ ((True) ∧ ((True) ∧ True) ∧ (.v (.one (.sc (.int .u64 t120))) : Tm) = halterref02_Round.R r ∧ ([] : List Box) = [])))) ∧ ((decide ((IntKind.wrap .u64 (Int.tdiv t58.1 (2 : Int))) < (4503599627370496 : Int))) = false → (True) ∧ (True) ∧ (True) ∧ (((decide ((IntKind.wrap .i64 ((IntKind.wrap .i64 (t58.2 + (1 : Int))) + (1075 : Int))) ≥ (2047 : Int))) = true → (True) ∧ (∃ t122 : Int, (Fun cfg 40 [.one (.sc (.bool a0)), .one (.sc (.int .u64 (9218868437227405312 : Int)))] [] (halterref02_signed.R t122) [] ∧ True) ∧ (True ∧ ((True) ∧ ((True) ∧ True) ∧ (.v (.one (.sc (.int .u64 t122))) : Tm) = halterref02_Round.R r ∧ ([] : List Box) = [])))) ∧ ((decide ((IntKind.wrap .i64 ((IntKind.wrap .i64 (t58.2 + (1 : Int))) + (1075 : Int))) ≥ (2047 : Int))) = false → (True) ∧ (True) ∧ (True) ∧ (True) ∧ (True) ∧ (True) ∧ (True) ∧ (True) ∧ (∃ t123 : Int, (Fun cfg 40 [.one (.sc (.bool a0)), .one (.sc (.int .u64 (IntKind.wrap .u64 ((IntKind.wrap .u64 ((IntKind.wrap .u64 ((IntKind.wrap .u64 ((IntKind.wrap .i64 ((IntKind.wrap .i64 (t58.2 + (1 : Int))) + (1075 : Int))))) * (4503599627370496 : Int))) + (IntKind.wrap .u64 (Int.tdiv t58.1 (2 : Int))))) - (4503599627370496 : Int)))))] [] (halterref02_signed.R t123) [] ∧ True) ∧ (True ∧ ((True) ∧ ((True) ∧ True) ∧ (.v (.one (.sc (.int .u64 t123))) : Tm) = halterref02_Round.R r ∧ ([] : List Box) = [])))))))))) ∧ ((t58.1 == (9007199254740992 : Int)) = false → (True) ∧ (True) ∧ (((t58.1 == (0 : Int)) = true → (True) ∧ (∃ t125 : Int, (Fun cfg 40 [.one (.sc (.bool a0)), .one (.sc (.int .u64 (0 : Int)))] [] (halterref02_signed.R t125) [] ∧ True) ∧ (True ∧ ((True) ∧ ((True) ∧ True) ∧ (.v (.one (.sc (.int .u64 t125))) : Tm) = halterref02_Round.R r ∧ ([] : List Box) = [])))) ∧ ((t58.1 == (0 : Int)) = false → (True) ∧ (True) ∧ (((decide (t58.1 < (4503599627370496 : Int))) = true → (True) ∧ (True) ∧ (∃ t127 : Int, (Fun cfg 40 [.one (.sc (.bool a0)), .one (.sc (.int .u64 t58.1))] [] (halterref02_signed.R t127) [] ∧ True) ∧ (True ∧ ((True) ∧ ((True) ∧ True) ∧ (.v (.one (.sc (.int .u64 t127))) : Tm) = halterref02_Round.R r ∧ ([] : List Box) = [])))) ∧ ((decide (t58.1 < (4503599627370496 : Int))) = false → (True) ∧ (True) ∧ (True) ∧ (((decide ((IntKind.wrap .i64 (t58.2 + (1075 : Int))) ≥ (2047 : Int))) = true → (True) ∧ (∃ t129 : Int, (Fun cfg 40 [.one (.sc (.bool a0)), .one (.sc (.int .u64 (9218868437227405312 : Int)))] [] (halterref02_signed.R t129) [] ∧ True) ∧ (True ∧ ((True) ∧ ((True) ∧ True) ∧ (.v (.one (.sc (.int .u64 t129))) : Tm) = halterref02_Round.R r ∧ ([] : List Box) = [])))) ∧ ((decide ((IntKind.wrap .i64 (t58.2 + (1075 : Int))) ≥ (2047 : Int))) = false → (True) ∧ (True) ∧ (True) ∧ (True) ∧ (True) ∧ (True) ∧ (True) ∧ (True) ∧ (∃ t130 : Int, (Fun cfg 40 [.one (.sc (.bool a0)), .one (.sc (.int .u64 (IntKind.wrap .u64 ((IntKind.wrap .u64 ((IntKind.wrap .u64 ((IntKind.wrap .u64 ((IntKind.wrap .i64 (t58.2 + (1075 : Int))))) * (4503599627370496 : Int))) + t58.1)) - (4503599627370496 : Int)))))] [] (halterref02_signed.R t130) [] ∧ True) ∧ (True ∧ ((True) ∧ ((True) ∧ True) ∧ (.v (.one (.sc (.int .u64 t130))) : Tm) = halterref02_Round.R r ∧ ([] : List Box) = [])))))))))))))))))))))))) (by kernel_rfl) ?_)
  refine ⟨trivial, ?_⟩
  refine ⟨trivial, ?_⟩
  obtain ⟨t27, ht27, h⟩ := of_bind h
  refine ⟨⟨trivial, trivial⟩, t27, Trip.loop FUEL (halterref02_Round.l0_ok a0 a3 FUEL a1 a2 false a3 t27 ht27), ?_⟩
  refine ⟨trivial, ?_⟩
  obtain ⟨t58, ht58, h⟩ := of_bind h
  refine ⟨⟨trivial, trivial⟩, t58, Trip.loop FUEL (halterref02_Round.l1_ok t27 a0 a3 FUEL t27.1 t27.2.1 t58 ht58), ?_⟩
  refine ⟨fun b68 => ?_, fun b68 => ?_⟩
  · rw [if_pos b68] at h
    refine ⟨b68, ?_⟩
    refine ⟨fun b69 => ?_, fun b69 => ?_⟩
    · rw [if_neg (ff b69)] at h
      refine ⟨b69, ?_⟩
      refine ⟨trivial, ?_⟩
      refine ⟨b69, ?_⟩
      refine ⟨(by decide), ?_⟩
      refine ⟨b69, ?_⟩
      refine ⟨trivial, ?_⟩
      refine ⟨b68, ?_⟩
      refine ⟨b69, ?_⟩
      refine ⟨b68, ?_⟩
      refine ⟨fun b85 => ?_, fun b85 => ?_⟩
      · rw [if_pos (beq_t b85)] at h
        refine ⟨trivial, ?_⟩
        refine ⟨trivial, ?_⟩
        refine ⟨trivial, ?_⟩
        refine ⟨trivial, ?_⟩
        refine ⟨trivial, ?_⟩
        refine ⟨fun b86 => ?_, fun b86 => ?_⟩
        · rw [if_pos (beq_t b86)] at h
          refine ⟨trivial, ?_⟩
          refine ⟨(by decide), ?_⟩
          refine ⟨trivial, ?_⟩
          refine ⟨trivial, ?_⟩
          refine ⟨trivial, ?_⟩
          refine ⟨trivial, ?_⟩
          refine ⟨trivial, ?_⟩
          refine ⟨trivial, ?_⟩
          refine ⟨fun b87 => ?_, fun b87 => ?_⟩
          · rw [if_pos (beq_t b87)] at h
            refine ⟨trivial, ?_⟩
            obtain ⟨t88, ht88, h⟩ := of_bind h
            refine ⟨t88, ⟨halterref02_signed.fun_ ht88, trivial⟩, ?_⟩
            refine ⟨trivial, ?_⟩
            obtain rfl := Option.some.inj h
            exact ⟨trivial, ⟨trivial, trivial⟩, rfl, rfl⟩
          · rw [if_neg (beq_f b87)] at h
            refine ⟨trivial, ?_⟩
            refine ⟨trivial, ?_⟩
            refine ⟨fun b89 => ?_, fun b89 => ?_⟩
            · rw [if_pos (of_decide_eq_true b89)] at h
              refine ⟨trivial, ?_⟩
              refine ⟨trivial, ?_⟩
              obtain ⟨t90, ht90, h⟩ := of_bind h
              refine ⟨t90, ⟨halterref02_signed.fun_ ht90, trivial⟩, ?_⟩
              refine ⟨trivial, ?_⟩
              obtain rfl := Option.some.inj h
              exact ⟨trivial, ⟨trivial, trivial⟩, rfl, rfl⟩
            · rw [if_neg (of_decide_eq_false b89)] at h
              refine ⟨trivial, ?_⟩
              refine ⟨trivial, ?_⟩
              refine ⟨trivial, ?_⟩
              refine ⟨fun b91 => ?_, fun b91 => ?_⟩
              · rw [if_pos (of_decide_eq_true b91)] at h
                refine ⟨trivial, ?_⟩
                obtain ⟨t92, ht92, h⟩ := of_bind h
                refine ⟨t92, ⟨halterref02_signed.fun_ ht92, trivial⟩, ?_⟩
                refine ⟨trivial, ?_⟩
                obtain rfl := Option.some.inj h
                exact ⟨trivial, ⟨trivial, trivial⟩, rfl, rfl⟩
              · rw [if_neg (of_decide_eq_false b91)] at h
                refine ⟨trivial, ?_⟩
                refine ⟨trivial, ?_⟩
                refine ⟨trivial, ?_⟩
                refine ⟨trivial, ?_⟩
                refine ⟨trivial, ?_⟩
                refine ⟨trivial, ?_⟩
                refine ⟨trivial, ?_⟩
                refine ⟨trivial, ?_⟩
                obtain ⟨t93, ht93, h⟩ := of_bind h
                refine ⟨t93, ⟨halterref02_signed.fun_ ht93, trivial⟩, ?_⟩
                refine ⟨trivial, ?_⟩
                obtain rfl := Option.some.inj h
                exact ⟨trivial, ⟨trivial, trivial⟩, rfl, rfl⟩
        · rw [if_neg (beq_f b86)] at h
          refine ⟨trivial, ?_⟩
          refine ⟨trivial, ?_⟩
          refine ⟨fun b94 => ?_, fun b94 => ?_⟩
          · rw [if_pos (beq_t b94)] at h
            refine ⟨trivial, ?_⟩
            obtain ⟨t95, ht95, h⟩ := of_bind h
            refine ⟨t95, ⟨halterref02_signed.fun_ ht95, trivial⟩, ?_⟩
            refine ⟨trivial, ?_⟩
            obtain rfl := Option.some.inj h
            exact ⟨trivial, ⟨trivial, trivial⟩, rfl, rfl⟩
          · rw [if_neg (beq_f b94)] at h
            refine ⟨trivial, ?_⟩
            refine ⟨trivial, ?_⟩
            refine ⟨fun b96 => ?_, fun b96 => ?_⟩
            · rw [if_pos (of_decide_eq_true b96)] at h
              refine ⟨trivial, ?_⟩
              refine ⟨trivial, ?_⟩
              obtain ⟨t97, ht97, h⟩ := of_bind h
              refine ⟨t97, ⟨halterref02_signed.fun_ ht97, trivial⟩, ?_⟩
              refine ⟨trivial, ?_⟩
              obtain rfl := Option.some.inj h
              exact ⟨trivial, ⟨trivial, trivial⟩, rfl, rfl⟩
            · rw [if_neg (of_decide_eq_false b96)] at h
              refine ⟨trivial, ?_⟩
              refine ⟨trivial, ?_⟩
              refine ⟨trivial, ?_⟩
              refine ⟨fun b98 => ?_, fun b98 => ?_⟩
              · rw [if_pos (of_decide_eq_true b98)] at h
                refine ⟨trivial, ?_⟩
                obtain ⟨t99, ht99, h⟩ := of_bind h
                refine ⟨t99, ⟨halterref02_signed.fun_ ht99, trivial⟩, ?_⟩
                refine ⟨trivial, ?_⟩
                obtain rfl := Option.some.inj h
                exact ⟨trivial, ⟨trivial, trivial⟩, rfl, rfl⟩
              · rw [if_neg (of_decide_eq_false b98)] at h
                refine ⟨trivial, ?_⟩
                refine ⟨trivial, ?_⟩
                refine ⟨trivial, ?_⟩
                refine ⟨trivial, ?_⟩
                refine ⟨trivial, ?_⟩
                refine ⟨trivial, ?_⟩
                refine ⟨trivial, ?_⟩
                refine ⟨trivial, ?_⟩
                obtain ⟨t100, ht100, h⟩ := of_bind h
                refine ⟨t100, ⟨halterref02_signed.fun_ ht100, trivial⟩, ?_⟩
                refine ⟨trivial, ?_⟩
                obtain rfl := Option.some.inj h
                exact ⟨trivial, ⟨trivial, trivial⟩, rfl, rfl⟩
      · rw [if_neg (beq_f b85)] at h
        refine ⟨trivial, ?_⟩
        refine ⟨trivial, ?_⟩
        refine ⟨fun b101 => ?_, fun b101 => ?_⟩
        · rw [if_pos (beq_t b101)] at h
          refine ⟨trivial, ?_⟩
          refine ⟨(by decide), ?_⟩
          refine ⟨trivial, ?_⟩
          refine ⟨trivial, ?_⟩
          refine ⟨trivial, ?_⟩
          refine ⟨trivial, ?_⟩
          refine ⟨trivial, ?_⟩
          refine ⟨trivial, ?_⟩
          refine ⟨fun b102 => ?_, fun b102 => ?_⟩
          · rw [if_pos (beq_t b102)] at h
            refine ⟨trivial, ?_⟩
            obtain ⟨t103, ht103, h⟩ := of_bind h
            refine ⟨t103, ⟨halterref02_signed.fun_ ht103, trivial⟩, ?_⟩
            refine ⟨trivial, ?_⟩
            obtain rfl := Option.some.inj h
            exact ⟨trivial, ⟨trivial, trivial⟩, rfl, rfl⟩
          · rw [if_neg (beq_f b102)] at h
            refine ⟨trivial, ?_⟩
            refine ⟨trivial, ?_⟩
            refine ⟨fun b104 => ?_, fun b104 => ?_⟩
            · rw [if_pos (of_decide_eq_true b104)] at h
              refine ⟨trivial, ?_⟩
              refine ⟨trivial, ?_⟩
              obtain ⟨t105, ht105, h⟩ := of_bind h
              refine ⟨t105, ⟨halterref02_signed.fun_ ht105, trivial⟩, ?_⟩
              refine ⟨trivial, ?_⟩
              obtain rfl := Option.some.inj h
              exact ⟨trivial, ⟨trivial, trivial⟩, rfl, rfl⟩
            · rw [if_neg (of_decide_eq_false b104)] at h
              refine ⟨trivial, ?_⟩
              refine ⟨trivial, ?_⟩
              refine ⟨trivial, ?_⟩
              refine ⟨fun b106 => ?_, fun b106 => ?_⟩
              · rw [if_pos (of_decide_eq_true b106)] at h
                refine ⟨trivial, ?_⟩
                obtain ⟨t107, ht107, h⟩ := of_bind h
                refine ⟨t107, ⟨halterref02_signed.fun_ ht107, trivial⟩, ?_⟩
                refine ⟨trivial, ?_⟩
                obtain rfl := Option.some.inj h
                exact ⟨trivial, ⟨trivial, trivial⟩, rfl, rfl⟩
              · rw [if_neg (of_decide_eq_false b106)] at h
                refine ⟨trivial, ?_⟩
                refine ⟨trivial, ?_⟩
                refine ⟨trivial, ?_⟩
                refine ⟨trivial, ?_⟩
                refine ⟨trivial, ?_⟩
                refine ⟨trivial, ?_⟩
                refine ⟨trivial, ?_⟩
                refine ⟨trivial, ?_⟩
                obtain ⟨t108, ht108, h⟩ := of_bind h
                refine ⟨t108, ⟨halterref02_signed.fun_ ht108, trivial⟩, ?_⟩
                refine ⟨trivial, ?_⟩
                obtain rfl := Option.some.inj h
                exact ⟨trivial, ⟨trivial, trivial⟩, rfl, rfl⟩
        · rw [if_neg (beq_f b101)] at h
          refine ⟨trivial, ?_⟩
          refine ⟨trivial, ?_⟩
          refine ⟨fun b109 => ?_, fun b109 => ?_⟩
          · rw [if_pos (beq_t b109)] at h
            refine ⟨trivial, ?_⟩
            obtain ⟨t110, ht110, h⟩ := of_bind h
            refine ⟨t110, ⟨halterref02_signed.fun_ ht110, trivial⟩, ?_⟩
            refine ⟨trivial, ?_⟩
            obtain rfl := Option.some.inj h
            exact ⟨trivial, ⟨trivial, trivial⟩, rfl, rfl⟩
          · rw [if_neg (beq_f b109)] at h
            refine ⟨trivial, ?_⟩
            refine ⟨trivial, ?_⟩
            refine ⟨fun b111 => ?_, fun b111 => ?_⟩
            · rw [if_pos (of_decide_eq_true b111)] at h
              refine ⟨trivial, ?_⟩
              refine ⟨trivial, ?_⟩
              obtain ⟨t112, ht112, h⟩ := of_bind h
              refine ⟨t112, ⟨halterref02_signed.fun_ ht112, trivial⟩, ?_⟩
              refine ⟨trivial, ?_⟩
              obtain rfl := Option.some.inj h
              exact ⟨trivial, ⟨trivial, trivial⟩, rfl, rfl⟩
            · rw [if_neg (of_decide_eq_false b111)] at h
              refine ⟨trivial, ?_⟩
              refine ⟨trivial, ?_⟩
              refine ⟨trivial, ?_⟩
              refine ⟨fun b113 => ?_, fun b113 => ?_⟩
              · rw [if_pos (of_decide_eq_true b113)] at h
                refine ⟨trivial, ?_⟩
                obtain ⟨t114, ht114, h⟩ := of_bind h
                refine ⟨t114, ⟨halterref02_signed.fun_ ht114, trivial⟩, ?_⟩
                refine ⟨trivial, ?_⟩
                obtain rfl := Option.some.inj h
                exact ⟨trivial, ⟨trivial, trivial⟩, rfl, rfl⟩
              · rw [if_neg (of_decide_eq_false b113)] at h
                refine ⟨trivial, ?_⟩
                refine ⟨trivial, ?_⟩
                refine ⟨trivial, ?_⟩
                refine ⟨trivial, ?_⟩
                refine ⟨trivial, ?_⟩
                refine ⟨trivial, ?_⟩
                refine ⟨trivial, ?_⟩
                refine ⟨trivial, ?_⟩
                obtain ⟨t115, ht115, h⟩ := of_bind h
                refine ⟨t115, ⟨halterref02_signed.fun_ ht115, trivial⟩, ?_⟩
                refine ⟨trivial, ?_⟩
                obtain rfl := Option.some.inj h
                exact ⟨trivial, ⟨trivial, trivial⟩, rfl, rfl⟩
    · rw [if_pos b69] at h
      refine ⟨b69, ?_⟩
      refine ⟨b69, ?_⟩
      refine ⟨b69, ?_⟩
      refine ⟨b68, ?_⟩
      refine ⟨b69, ?_⟩
      refine ⟨b68, ?_⟩
      refine ⟨rfl, ?_⟩
      refine ⟨trivial, ?_⟩
      refine ⟨trivial, ?_⟩
      refine ⟨trivial, ?_⟩
      refine ⟨trivial, ?_⟩
      refine ⟨trivial, ?_⟩
      refine ⟨fun b70 => ?_, fun b70 => ?_⟩
      · rw [if_pos (beq_t b70)] at h
        refine ⟨trivial, ?_⟩
        refine ⟨(by decide), ?_⟩
        refine ⟨trivial, ?_⟩
        refine ⟨trivial, ?_⟩
        refine ⟨trivial, ?_⟩
        refine ⟨trivial, ?_⟩
        refine ⟨trivial, ?_⟩
        refine ⟨trivial, ?_⟩
        refine ⟨fun b71 => ?_, fun b71 => ?_⟩
        · rw [if_pos (beq_t b71)] at h
          refine ⟨trivial, ?_⟩
          obtain ⟨t72, ht72, h⟩ := of_bind h
          refine ⟨t72, ⟨halterref02_signed.fun_ ht72, trivial⟩, ?_⟩
          refine ⟨trivial, ?_⟩
          obtain rfl := Option.some.inj h
          exact ⟨trivial, ⟨trivial, trivial⟩, rfl, rfl⟩
        · rw [if_neg (beq_f b71)] at h
          refine ⟨trivial, ?_⟩
          refine ⟨trivial, ?_⟩
          refine ⟨fun b73 => ?_, fun b73 => ?_⟩
          · rw [if_pos (of_decide_eq_true b73)] at h
            refine ⟨trivial, ?_⟩
            refine ⟨trivial, ?_⟩
            obtain ⟨t74, ht74, h⟩ := of_bind h
            refine ⟨t74, ⟨halterref02_signed.fun_ ht74, trivial⟩, ?_⟩
            refine ⟨trivial, ?_⟩
            obtain rfl := Option.some.inj h
            exact ⟨trivial, ⟨trivial, trivial⟩, rfl, rfl⟩
          · rw [if_neg (of_decide_eq_false b73)] at h
            refine ⟨trivial, ?_⟩
            refine ⟨trivial, ?_⟩
            refine ⟨trivial, ?_⟩
            refine ⟨fun b75 => ?_, fun b75 => ?_⟩
            · rw [if_pos (of_decide_eq_true b75)] at h
              refine ⟨trivial, ?_⟩
              obtain ⟨t76, ht76, h⟩ := of_bind h
              refine ⟨t76, ⟨halterref02_signed.fun_ ht76, trivial⟩, ?_⟩
              refine ⟨trivial, ?_⟩
              obtain rfl := Option.some.inj h
              exact ⟨trivial, ⟨trivial, trivial⟩, rfl, rfl⟩
            · rw [if_neg (of_decide_eq_false b75)] at h
              refine ⟨trivial, ?_⟩
              refine ⟨trivial, ?_⟩
              refine ⟨trivial, ?_⟩
              refine ⟨trivial, ?_⟩
              refine ⟨trivial, ?_⟩
              refine ⟨trivial, ?_⟩
              refine ⟨trivial, ?_⟩
              refine ⟨trivial, ?_⟩
              obtain ⟨t77, ht77, h⟩ := of_bind h
              refine ⟨t77, ⟨halterref02_signed.fun_ ht77, trivial⟩, ?_⟩
              refine ⟨trivial, ?_⟩
              obtain rfl := Option.some.inj h
              exact ⟨trivial, ⟨trivial, trivial⟩, rfl, rfl⟩
      · rw [if_neg (beq_f b70)] at h
        refine ⟨trivial, ?_⟩
        refine ⟨trivial, ?_⟩
        refine ⟨fun b78 => ?_, fun b78 => ?_⟩
        · rw [if_pos (beq_t b78)] at h
          refine ⟨trivial, ?_⟩
          obtain ⟨t79, ht79, h⟩ := of_bind h
          refine ⟨t79, ⟨halterref02_signed.fun_ ht79, trivial⟩, ?_⟩
          refine ⟨trivial, ?_⟩
          obtain rfl := Option.some.inj h
          exact ⟨trivial, ⟨trivial, trivial⟩, rfl, rfl⟩
        · rw [if_neg (beq_f b78)] at h
          refine ⟨trivial, ?_⟩
          refine ⟨trivial, ?_⟩
          refine ⟨fun b80 => ?_, fun b80 => ?_⟩
          · rw [if_pos (of_decide_eq_true b80)] at h
            refine ⟨trivial, ?_⟩
            refine ⟨trivial, ?_⟩
            obtain ⟨t81, ht81, h⟩ := of_bind h
            refine ⟨t81, ⟨halterref02_signed.fun_ ht81, trivial⟩, ?_⟩
            refine ⟨trivial, ?_⟩
            obtain rfl := Option.some.inj h
            exact ⟨trivial, ⟨trivial, trivial⟩, rfl, rfl⟩
          · rw [if_neg (of_decide_eq_false b80)] at h
            refine ⟨trivial, ?_⟩
            refine ⟨trivial, ?_⟩
            refine ⟨trivial, ?_⟩
            refine ⟨fun b82 => ?_, fun b82 => ?_⟩
            · rw [if_pos (of_decide_eq_true b82)] at h
              refine ⟨trivial, ?_⟩
              obtain ⟨t83, ht83, h⟩ := of_bind h
              refine ⟨t83, ⟨halterref02_signed.fun_ ht83, trivial⟩, ?_⟩
              refine ⟨trivial, ?_⟩
              obtain rfl := Option.some.inj h
              exact ⟨trivial, ⟨trivial, trivial⟩, rfl, rfl⟩
            · rw [if_neg (of_decide_eq_false b82)] at h
              refine ⟨trivial, ?_⟩
              refine ⟨trivial, ?_⟩
              refine ⟨trivial, ?_⟩
              refine ⟨trivial, ?_⟩
              refine ⟨trivial, ?_⟩
              refine ⟨trivial, ?_⟩
              refine ⟨trivial, ?_⟩
              refine ⟨trivial, ?_⟩
              obtain ⟨t84, ht84, h⟩ := of_bind h
              refine ⟨t84, ⟨halterref02_signed.fun_ ht84, trivial⟩, ?_⟩
              refine ⟨trivial, ?_⟩
              obtain rfl := Option.some.inj h
              exact ⟨trivial, ⟨trivial, trivial⟩, rfl, rfl⟩
  · rw [if_neg (ff b68)] at h
    refine ⟨b68, ?_⟩
    refine ⟨b68, ?_⟩
    refine ⟨b68, ?_⟩
    refine ⟨rfl, ?_⟩
    refine ⟨trivial, ?_⟩
    refine ⟨trivial, ?_⟩
    refine ⟨fun b116 => ?_, fun b116 => ?_⟩
    · rw [if_pos (beq_t b116)] at h
      refine ⟨trivial, ?_⟩
      refine ⟨(by decide), ?_⟩
      refine ⟨trivial, ?_⟩
      refine ⟨trivial, ?_⟩
      refine ⟨trivial, ?_⟩
      refine ⟨trivial, ?_⟩
      refine ⟨trivial, ?_⟩
      refine ⟨trivial, ?_⟩
      refine ⟨fun b117 => ?_, fun b117 => ?_⟩
      · rw [if_pos (beq_t b117)] at h
        refine ⟨trivial, ?_⟩
        obtain ⟨t118, ht118, h⟩ := of_bind h
        refine ⟨t118, ⟨halterref02_signed.fun_ ht118, trivial⟩, ?_⟩
        refine ⟨trivial, ?_⟩
        obtain rfl := Option.some.inj h
        exact ⟨trivial, ⟨trivial, trivial⟩, rfl, rfl⟩
      · rw [if_neg (beq_f b117)] at h
        refine ⟨trivial, ?_⟩
        refine ⟨trivial, ?_⟩
        refine ⟨fun b119 => ?_, fun b119 => ?_⟩
        · rw [if_pos (of_decide_eq_true b119)] at h
          refine ⟨trivial, ?_⟩
          refine ⟨trivial, ?_⟩
          obtain ⟨t120, ht120, h⟩ := of_bind h
          refine ⟨t120, ⟨halterref02_signed.fun_ ht120, trivial⟩, ?_⟩
          refine ⟨trivial, ?_⟩
          obtain rfl := Option.some.inj h
          exact ⟨trivial, ⟨trivial, trivial⟩, rfl, rfl⟩
        · rw [if_neg (of_decide_eq_false b119)] at h
          refine ⟨trivial, ?_⟩
          refine ⟨trivial, ?_⟩
          refine ⟨trivial, ?_⟩
          refine ⟨fun b121 => ?_, fun b121 => ?_⟩
          · rw [if_pos (of_decide_eq_true b121)] at h
            refine ⟨trivial, ?_⟩
            obtain ⟨t122, ht122, h⟩ := of_bind h
            refine ⟨t122, ⟨halterref02_signed.fun_ ht122, trivial⟩, ?_⟩
            refine ⟨trivial, ?_⟩
            obtain rfl := Option.some.inj h
            exact ⟨trivial, ⟨trivial, trivial⟩, rfl, rfl⟩
          · rw [if_neg (of_decide_eq_false b121)] at h
            refine ⟨trivial, ?_⟩
            refine ⟨trivial, ?_⟩
            refine ⟨trivial, ?_⟩
            refine ⟨trivial, ?_⟩
            refine ⟨trivial, ?_⟩
            refine ⟨trivial, ?_⟩
            refine ⟨trivial, ?_⟩
            refine ⟨trivial, ?_⟩
            obtain ⟨t123, ht123, h⟩ := of_bind h
            refine ⟨t123, ⟨halterref02_signed.fun_ ht123, trivial⟩, ?_⟩
            refine ⟨trivial, ?_⟩
            obtain rfl := Option.some.inj h
            exact ⟨trivial, ⟨trivial, trivial⟩, rfl, rfl⟩
    · rw [if_neg (beq_f b116)] at h
      refine ⟨trivial, ?_⟩
      refine ⟨trivial, ?_⟩
      refine ⟨fun b124 => ?_, fun b124 => ?_⟩
      · rw [if_pos (beq_t b124)] at h
        refine ⟨trivial, ?_⟩
        obtain ⟨t125, ht125, h⟩ := of_bind h
        refine ⟨t125, ⟨halterref02_signed.fun_ ht125, trivial⟩, ?_⟩
        refine ⟨trivial, ?_⟩
        obtain rfl := Option.some.inj h
        exact ⟨trivial, ⟨trivial, trivial⟩, rfl, rfl⟩
      · rw [if_neg (beq_f b124)] at h
        refine ⟨trivial, ?_⟩
        refine ⟨trivial, ?_⟩
        refine ⟨fun b126 => ?_, fun b126 => ?_⟩
        · rw [if_pos (of_decide_eq_true b126)] at h
          refine ⟨trivial, ?_⟩
          refine ⟨trivial, ?_⟩
          obtain ⟨t127, ht127, h⟩ := of_bind h
          refine ⟨t127, ⟨halterref02_signed.fun_ ht127, trivial⟩, ?_⟩
          refine ⟨trivial, ?_⟩
          obtain rfl := Option.some.inj h
          exact ⟨trivial, ⟨trivial, trivial⟩, rfl, rfl⟩
        · rw [if_neg (of_decide_eq_false b126)] at h
          refine ⟨trivial, ?_⟩
          refine ⟨trivial, ?_⟩
          refine ⟨trivial, ?_⟩
          refine ⟨fun b128 => ?_, fun b128 => ?_⟩
          · rw [if_pos (of_decide_eq_true b128)] at h
            refine ⟨trivial, ?_⟩
            obtain ⟨t129, ht129, h⟩ := of_bind h
            refine ⟨t129, ⟨halterref02_signed.fun_ ht129, trivial⟩, ?_⟩
            refine ⟨trivial, ?_⟩
            obtain rfl := Option.some.inj h
            exact ⟨trivial, ⟨trivial, trivial⟩, rfl, rfl⟩
          · rw [if_neg (of_decide_eq_false b128)] at h
            refine ⟨trivial, ?_⟩
            refine ⟨trivial, ?_⟩
            refine ⟨trivial, ?_⟩
            refine ⟨trivial, ?_⟩
            refine ⟨trivial, ?_⟩
            refine ⟨trivial, ?_⟩
            refine ⟨trivial, ?_⟩
            refine ⟨trivial, ?_⟩
            obtain ⟨t130, ht130, h⟩ := of_bind h
            refine ⟨t130, ⟨halterref02_signed.fun_ ht130, trivial⟩, ?_⟩
            refine ⟨trivial, ?_⟩
            obtain rfl := Option.some.inj h
            exact ⟨trivial, ⟨trivial, trivial⟩, rfl, rfl⟩
/-! halter/halterref02.Mul -/
def halterref02_Mul.l0 (t1 : Bool) (t2 : Bool) (t19 : Bool × Int × Int × Bool) (t20 : Bool × Int × Int × Bool) : Nat → Int → Int → Option (Int × Int)
  | 0, _, _ => none
  | n + 1, x26, x27 =>
    if x26 < (4503599627370496 : Int) then
      halterref02_Mul.l0 t1 t2 t19 t20 n (IntKind.wrap .u64 ((2 : Int) * x26)) (IntKind.wrap .i64 (x27 - (1 : Int)))
    else
      some (x26, x27)
def halterref02_Mul.l0_S (t1 : Bool) (t2 : Bool) (t19 : Bool × Int × Int × Bool) (t20 : Bool × Int × Int × Bool) (x26 : Int) (x27 : Int) : St := ⟨[.any, .any, .any, .any, .any, .v (.one (.sc (.bool (!(t1 == t2))))), .v (.one (.ptr 0 ⟨0, 0, 0, 0⟩)), .v (.one (.ptr 1 ⟨0, 0, 0, 0⟩)), .any, .any, .any, .any, .any, .any, .any, .any, .any, .any, .any, .any, .any, .any, .any, .any, .any, .any, .any, .any, .any, .any, .any, .any, .any, .any, .any, .any, .any, .any, .any, .any, .any, .any, .any, .any, .any, .any, .any, .any, .any, .any, .any, .any, .any, .any, .any, .any, .any, .any, .any, .any, .any, .any, .any, .any, .any, .any, .any, .any, .any, .any, .any, .any, .any, .any, .any, .any, .any, .any, .any, .any, .any, .any, .any, .any, .any, .any, .any, .any, .any, .any, .any, .any, .any, .any, .any, .any, .any, .any, .any, .any, .any, .any, .any, .any, .any, .any, .any, .any, .any], [.ex false [.c (.sc (.bool t19.1)), .c (.sc (.int .u64 x26)), .c (.sc (.int .i64 x27)), .c (.sc (.bool t19.2.2.2))] 44, .ex false [.c (.sc (.bool t20.1)), .c (.sc (.int .u64 t20.2.1)), .c (.sc (.int .i64 t20.2.2.1)), .c (.sc (.bool t20.2.2.2))] 44], 0⟩
def halterref02_Mul.l0_Q (t1 : Bool) (t2 : Bool) (t19 : Bool × Int × Int × Bool) (t20 : Bool × Int × Int × Bool) (t : Int × Int) : Exit → St → Prop := fun e s => e = (.exit 0) ∧ s = ⟨[.any, .any, .any, .any, .any, .v (.one (.sc (.bool (!(t1 == t2))))), .v (.one (.ptr 0 ⟨0, 0, 0, 0⟩)), .v (.one (.ptr 1 ⟨0, 0, 0, 0⟩)), .any, .any, .any, .any, .any, .any, .any, .any, .any, .any, .any, .any, .any, .any, .any, .any, .any, .any, .any, .any, .any, .any, .any, .any, .any, .any, .any, .any, .any, .any, .any, .any, .any, .any, .any, .any, .any, .any, .any, .any, .any, .any, .any, .any, .any, .any, .any, .any, .any, .any, .any, .any, .any, .any, .any, .any, .any, .any, .any, .any, .any, .any, .any, .any, .any, .any, .any, .any, .any, .any, .any, .any, .any, .any, .any, .any, .any, .any, .any, .any, .any, .any, .any, .any, .any, .any, .any, .any, .any, .any, .any, .any, .any, .any, .any, .any, .any, .any, .any, .any, .any], [.ex false [.c (.sc (.bool t19.1)), .c (.sc (.int .u64 t.1)), .c (.sc (.int .i64 t.2)), .c (.sc (.bool t19.2.2.2))] 44, .ex false [.c (.sc (.bool t20.1)), .c (.sc (.int .u64 t20.2.1)), .c (.sc (.int .i64 t20.2.2.1)), .c (.sc (.bool t20.2.2.2))] 44], 0⟩
theorem halterref02_Mul.l0_ok (t1 : Bool) (t2 : Bool) (t19 : Bool × Int × Int × Bool) (t20 : Bool × Int × Int × Bool) : ∀ (n : Nat) (x26 : Int) (x27 : Int) (r : Int × Int), halterref02_Mul.l0 t1 t2 t19 t20 n x26 x27 = some r → TripN cfg (cpath (Try.f10.body.getD .skip) [1, 1, 1, 1, 1, 1, 0, 0, 0]) n (halterref02_Mul.l0_S t1 t2 t19 t20 x26 x27) (halterref02_Mul.l0_Q t1 t2 t19 t20 r) := by
  intro n
  induction n with
  | zero => intro x26 x27 r h; cases h
  | succ n ih =>
    intro x26 x27 r h
    rw [halterref02_Mul.l0] at h
    refine TripN.of_run cfg_ok (k := (.br (.adj [] (.adj [] (.adj [] (.adj [.keep [5, 6, 7], .drop 2] .nil)))) (.adj [.keep [5, 6, 7], .drop 2] .nil))) (to_goal (q := (True) ∧ (True) ∧ (((decide (x26 < (4503599627370496 : Int))) = true → (True ∧ (True ∧ (True ∧ (True) ∧ (True) ∧ (True) ∧ (True) ∧ (True) ∧ (True) ∧ (((True) ∧ (True) ∧ True) ∧ TripN cfg (cpath (Try.f10.body.getD .skip) [1, 1, 1, 1, 1, 1, 0, 0, 0]) n (halterref02_Mul.l0_S t1 t2 t19 t20 (IntKind.wrap .u64 ((2 : Int) * x26)) (IntKind.wrap .i64 (x27 - (1 : Int)))) (halterref02_Mul.l0_Q t1 t2 t19 t20 r)))))) ∧ ((decide (x26 < (4503599627370496 : Int))) = false → (((True) ∧ (True) ∧ True) ∧ halterref02_Mul.l0_Q t1 t2 t19 t20 r (.exit 0) ⟨[.any, .any, .any, .any, .any, .v (.one (.sc (.bool (!(t1 == t2))))), .v (.one (.ptr 0 ⟨0, 0, 0, 0⟩)), .v (.one (.ptr 1 ⟨0, 0, 0, 0⟩)), .any, .any, .any, .any, .any, .any, .any, .any, .any, .any, .any, .any, .any, .any, .any, .any, .any, .any, .any, .any, .any, .any, .any, .any, .any, .any, .any, .any, .any, .any, .any, .any, .any, .any, .any, .any, .any, .any, .any, .any, .any, .any, .any, .any, .any, .any, .any, .any, .any, .any, .any, .any, .any, .any, .any, .any, .any, .any, .any, .any, .any, .any, .any, .any, .any, .any, .any, .any, .any, .any, .any, .any, .any, .any, .any, .any, .any, .any, .any, .any, .any, .any, .any, .any, .any, .any, .any, .any, .any, .any, .any, .any, .any, .any, .any, .any, .any, .any, .any, .any, .any], [.ex false [.c (.sc (.bool t19.1)), .c (.sc (.int .u64 x26)), .c (.sc (.int .i64 x27)), .c (.sc (.bool (z3 t19)))] 44, .ex false [.c (.sc (.bool t20.1)), .c (.sc (.int .u64 t20.2.1)), .c (.sc (.int .i64 (p2 t20))), .c (.sc (.bool (z3 t20)))] 44], 0⟩)))) (by kernel_rfl) ?_)
    refine ⟨trivial, ?_⟩
    refine ⟨trivial, ?_⟩
    refine ⟨fun b32 => ?_, fun b32 => ?_⟩
    · rw [if_pos (of_decide_eq_true b32)] at h
      refine ⟨trivial, ?_⟩
      refine ⟨trivial, ?_⟩
      refine ⟨trivial, ?_⟩
      refine ⟨trivial, ?_⟩
      refine ⟨trivial, ?_⟩
      refine ⟨trivial, ?_⟩
      refine ⟨trivial, ?_⟩
      refine ⟨trivial, ?_⟩
      refine ⟨trivial, ?_⟩
      exact ⟨⟨trivial, trivial, trivial⟩, ih (IntKind.wrap .u64 ((2 : Int) * x26)) (IntKind.wrap .i64 (x27 - (1 : Int))) r h⟩
    · rw [if_neg (of_decide_eq_false b32)] at h
      obtain rfl := Option.some.inj h
      exact ⟨⟨trivial, trivial, trivial⟩, rfl, rfl⟩
def halterref02_Mul.l1 (t1 : Bool) (t2 : Bool) (t19 : Bool × Int × Int × Bool) (t20 : Bool × Int × Int × Bool) (t31 : Int × Int) : Nat → Int → Int → Option (Int × Int)
  | 0, _, _ => none
  | n + 1, x38, x39 =>
    if x38 < (4503599627370496 : Int) then
      halterref02_Mul.l1 t1 t2 t19 t20 t31 n (IntKind.wrap .u64 ((2 : Int) * x38)) (IntKind.wrap .i64 (x39 - (1 : Int)))
    else
      some (x38, x39)
def halterref02_Mul.l1_S (t1 : Bool) (t2 : Bool) (t19 : Bool × Int × Int × Bool) (t20 : Bool × Int × Int × Bool) (t31 : Int × Int) (x38 : Int) (x39 : Int) : St := ⟨[.any, .any, .any, .any, .any, .v (.one (.sc (.bool (!(t1 == t2))))), .v (.one (.ptr 0 ⟨0, 0, 0, 0⟩)), .v (.one (.ptr 1 ⟨0, 0, 0, 0⟩)), .any, .any, .any, .any, .any, .any, .any, .any, .any, .any, .any, .any, .any, .any, .any, .any, .any, .any, .any, .any, .any, .any, .any, .any, .any, .any, .any, .any, .any, .any, .any, .any, .any, .any, .any, .any, .any, .any, .any, .any, .any, .any, .any, .any, .any, .any, .any, .any, .any, .any, .any, .any, .any, .any, .any, .any, .any, .any, .any, .any, .any, .any, .any, .any, .any, .any, .any, .any, .any, .any, .any, .any, .any, .any, .any, .any, .any, .any, .any, .any, .any, .any, .any, .any, .any, .any, .any, .any, .any, .any, .any, .any, .any, .any, .any, .any, .any, .any, .any, .any, .any], [.ex false [.c (.sc (.bool t19.1)), .c (.sc (.int .u64 t31.1)), .c (.sc (.int .i64 t31.2)), .c (.sc (.bool t19.2.2.2))] 44, .ex false [.c (.sc (.bool t20.1)), .c (.sc (.int .u64 x38)), .c (.sc (.int .i64 x39)), .c (.sc (.bool t20.2.2.2))] 44], 0⟩
def halterref02_Mul.l1_Q (t1 : Bool) (t2 : Bool) (t19 : Bool × Int × Int × Bool) (t20 : Bool × Int × Int × Bool) (t31 : Int × Int) (t : Int × Int) : Exit → St → Prop := fun e s => e = (.exit 2) ∧ s = ⟨[.any, .any, .any, .any, .any, .v (.one (.sc (.bool (!(t1 == t2))))), .v (.one (.ptr 0 ⟨0, 0, 0, 0⟩)), .v (.one (.ptr 1 ⟨0, 0, 0, 0⟩)), .any, .any, .any, .any, .any, .any, .any, .any, .any, .any, .any, .any, .any, .any, .any, .any, .any, .any, .any, .any, .any, .any, .any, .any, .any, .any, .any, .any, .any, .any, .any, .any, .any, .any, .any, .any, .any, .any, .any, .any, .any, .any, .any, .any, .any, .any, .any, .any, .any, .any, .any, .any, .any, .any, .any, .any, .any, .any, .any, .any, .any, .any, .any, .any, .any, .any, .any, .any, .any, .any, .any, .any, .any, .any, .any, .any, .any, .any, .any, .any, .any, .any, .any, .any, .any, .any, .any, .any, .any, .any, .any, .any, .any, .any, .any, .any, .any, .any, .any, .any, .any], [.ex false [.c (.sc (.bool t19.1)), .c (.sc (.int .u64 t31.1)), .c (.sc (.int .i64 t31.2)), .c (.sc (.bool t19.2.2.2))] 44, .ex false [.c (.sc (.bool t20.1)), .c (.sc (.int .u64 t.1)), .c (.sc (.int .i64 t.2)), .c (.sc (.bool t20.2.2.2))] 44], 0⟩
theorem halterref02_Mul.l1_ok (t1 : Bool) (t2 : Bool) (t19 : Bool × Int × Int × Bool) (t20 : Bool × Int × Int × Bool) (t31 : Int × Int) : ∀ (n : Nat) (x38 : Int) (x39 : Int) (r : Int × Int), halterref02_Mul.l1 t1 t2 t19 t20 t31 n x38 x39 = some r → TripN cfg (cpath (Try.f10.body.getD .skip) [1, 1, 1, 1, 1, 1, 1, 0, 0, 0]) n (halterref02_Mul.l1_S t1 t2 t19 t20 t31 x38 x39) (halterref02_Mul.l1_Q t1 t2 t19 t20 t31 r) := by
  intro n
  induction n with
  | zero => intro x38 x39 r h; cases h
  | succ n ih =>
    intro x38 x39 r h
    rw [halterref02_Mul.l1] at h
    refine TripN.of_run cfg_ok (k := (.br (.adj [] (.adj [] (.adj [] (.adj [.keep [5, 6, 7], .drop 2] .nil)))) (.adj [.keep [5, 6, 7], .drop 2] .nil))) (to_goal (q := (True) ∧ (True) ∧ (((decide (x38 < (4503599627370496 : Int))) = true → (True ∧ (True ∧ (True ∧ (True) ∧ (True) ∧ (True) ∧ (True) ∧ (True) ∧ (True) ∧ (((True) ∧ (True) ∧ True) ∧ TripN cfg (cpath (Try.f10.body.getD .skip) [1, 1, 1, 1, 1, 1, 1, 0, 0, 0]) n (halterref02_Mul.l1_S t1 t2 t19 t20 t31 (IntKind.wrap .u64 ((2 : Int) * x38)) (IntKind.wrap .i64 (x39 - (1 : Int)))) (halterref02_Mul.l1_Q t1 t2 t19 t20 t31 r)))))) ∧ ((decide (x38 < (4503599627370496 : Int))) = false → (((True) ∧ (True) ∧ True) ∧ halterref02_Mul.l1_Q t1 t2 t19 t20 t31 r (.exit 2) ⟨[.any, .any, .any, .any, .any, .v (.one (.sc (.bool (!(t1 == t2))))), .v (.one (.ptr 0 ⟨0, 0, 0, 0⟩)), .v (.one (.ptr 1 ⟨0, 0, 0, 0⟩)), .any, .any, .any, .any, .any, .any, .any, .any, .any, .any, .any, .any, .any, .any, .any, .any, .any, .any, .any, .any, .any, .any, .any, .any, .any, .any, .any, .any, .any, .any, .any, .any, .any, .any, .any, .any, .any, .any, .any, .any, .any, .any, .any, .any, .any, .any, .any, .any, .any, .any, .any, .any, .any, .any, .any, .any, .any, .any, .any, .any, .any, .any, .any, .any, .any, .any, .any, .any, .any, .any, .any, .any, .any, .any, .any, .any, .any, .any, .any, .any, .any, .any, .any, .any, .any, .any, .any, .any, .any, .any, .any, .any, .any, .any, .any, .any, .any, .any, .any, .any, .any], [.ex false [.c (.sc (.bool t19.1)), .c (.sc (.int .u64 t31.1)), .c (.sc (.int .i64 t31.2)), .c (.sc (.bool (z3 t19)))] 44, .ex false [.c (.sc (.bool t20.1)), .c (.sc (.int .u64 x38)), .c (.sc (.int .i64 x39)), .c (.sc (.bool (z3 t20)))] 44], 0⟩)))) (by kernel_rfl) ?_)
    refine ⟨trivial, ?_⟩
    refine ⟨trivial, ?_⟩
    refine ⟨fun b44 => ?_, fun b44 => ?_⟩
    · rw [if_pos (of_decide_eq_true b44)] at h
      refine ⟨trivial, ?_⟩
      refine ⟨trivial, ?_⟩
      refine ⟨trivial, ?_⟩
      refine ⟨trivial, ?_⟩
      refine ⟨trivial, ?_⟩
      refine ⟨trivial, ?_⟩
      refine ⟨trivial, ?_⟩
      refine ⟨trivial, ?_⟩
      refine ⟨trivial, ?_⟩
      exact ⟨⟨trivial, trivial, trivial⟩, ih (IntKind.wrap .u64 ((2 : Int) * x38)) (IntKind.wrap .i64 (x39 - (1 : Int))) r h⟩
    · rw [if_neg (of_decide_eq_false b44)] at h
      obtain rfl := Option.some.inj h
      exact ⟨⟨trivial, trivial, trivial⟩, rfl, rfl⟩
def halterref02_Mul.l2 (t1 : Bool) (t2 : Bool) (t57 : Bool × Int × Int × Bool) (t58 : Bool × Int × Int × Bool) : Nat → Int → Int → Option (Int × Int)
  | 0, _, _ => none
  | n + 1, x64, x65 =>
    if x64 < (4503599627370496 : Int) then
      halterref02_Mul.l2 t1 t2 t57 t58 n (IntKind.wrap .u64 ((2 : Int) * x64)) (IntKind.wrap .i64 (x65 - (1 : Int)))
    else
      some (x64, x65)
def halterref02_Mul.l2_S (t1 : Bool) (t2 : Bool) (t57 : Bool × Int × Int × Bool) (t58 : Bool × Int × Int × Bool) (x64 : Int) (x65 : Int) : St := ⟨[.any, .any, .any, .any, .any, .v (.one (.sc (.bool (!(t1 == t2))))), .v (.one (.ptr 0 ⟨0, 0, 0, 0⟩)), .v (.one (.ptr 1 ⟨0, 0, 0, 0⟩)), .any, .any, .any, .any, .any, .any, .any, .any, .any, .any, .any, .any, .any, .any, .any, .any, .any, .any, .any, .any, .any, .any, .any, .any, .any, .any, .any, .any, .any, .any, .any, .any, .any, .any, .any, .any, .any, .any, .any, .any, .any, .any, .any, .any, .any, .any, .any, .any, .any, .any, .any, .any, .any, .any, .any, .any, .any, .any, .any, .any, .any, .any, .any, .any, .any, .any, .any, .any, .any, .any, .any, .any, .any, .any, .any, .any, .any, .any, .any, .any, .any, .any, .any, .any, .any, .any, .any, .any, .any, .any, .any, .any, .any, .any, .any, .any, .any, .any, .any, .any, .any], [.ex false [.c (.sc (.bool t57.1)), .c (.sc (.int .u64 x64)), .c (.sc (.int .i64 x65)), .c (.sc (.bool t57.2.2.2))] 44, .ex false [.c (.sc (.bool t58.1)), .c (.sc (.int .u64 t58.2.1)), .c (.sc (.int .i64 t58.2.2.1)), .c (.sc (.bool t58.2.2.2))] 44], 0⟩
def halterref02_Mul.l2_Q (t1 : Bool) (t2 : Bool) (t57 : Bool × Int × Int × Bool) (t58 : Bool × Int × Int × Bool) (t : Int × Int) : Exit → St → Prop := fun e s => e = (.exit 0) ∧ s = ⟨[.any, .any, .any, .any, .any, .v (.one (.sc (.bool (!(t1 == t2))))), .v (.one (.ptr 0 ⟨0, 0, 0, 0⟩)), .v (.one (.ptr 1 ⟨0, 0, 0, 0⟩)), .any, .any, .any, .any, .any, .any, .any, .any, .any, .any, .any, .any, .any, .any, .any, .any, .any, .any, .any, .any, .any, .any, .any, .any, .any, .any, .any, .any, .any, .any, .any, .any, .any, .any, .any, .any, .any, .any, .any, .any, .any, .any, .any, .any, .any, .any, .any, .any, .any, .any, .any, .any, .any, .any, .any, .any, .any, .any, .any, .any, .any, .any, .any, .any, .any, .any, .any, .any, .any, .any, .any, .any, .any, .any, .any, .any, .any, .any, .any, .any, .any, .any, .any, .any, .any, .any, .any, .any, .any, .any, .any, .any, .any, .any, .any, .any, .any, .any, .any, .any, .any], [.ex false [.c (.sc (.bool t57.1)), .c (.sc (.int .u64 t.1)), .c (.sc (.int .i64 t.2)), .c (.sc (.bool t57.2.2.2))] 44, .ex false [.c (.sc (.bool t58.1)), .c (.sc (.int .u64 t58.2.1)), .c (.sc (.int .i64 t58.2.2.1)), .c (.sc (.bool t58.2.2.2))] 44], 0⟩
theorem halterref02_Mul.l2_ok (t1 : Bool) (t2 : Bool) (t57 : Bool × Int × Int × Bool) (t58 : Bool × Int × Int × Bool) : ∀ (n : Nat) (x64 : Int) (x65 : Int) (r : Int × Int), halterref02_Mul.l2 t1 t2 t57 t58 n x64 x65 = some r → TripN cfg (cpath (Try.f10.body.getD .skip) [1, 1, 1, 1, 1, 1, 0, 0, 0]) n (halterref02_Mul.l2_S t1 t2 t57 t58 x64 x65) (halterref02_Mul.l2_Q t1 t2 t57 t58 r) := by
  intro n
  induction n with
  | zero => intro x64 x65 r h; cases h
  | succ n ih =>
    intro x64 x65 r h
    rw [halterref02_Mul.l2] at h
    refine TripN.of_run cfg_ok (k := (.br (.adj [] (.adj [] (.adj [] (.adj [.keep [5, 6, 7], .drop 2] .nil)))) (.adj [.keep [5, 6, 7], .drop 2] .nil))) (to_goal (q := (True) ∧ (True) ∧ (((decide (x64 < (4503599627370496 : Int))) = true → (True ∧ (True ∧ (True ∧ (True) ∧ (True) ∧ (True) ∧ (True) ∧ (True) ∧ (True) ∧ (((True) ∧ (True) ∧ True) ∧ TripN cfg (cpath (Try.f10.body.getD .skip) [1, 1, 1, 1, 1, 1, 0, 0, 0]) n (halterref02_Mul.l2_S t1 t2 t57 t58 (IntKind.wrap .u64 ((2 : Int) * x64)) (IntKind.wrap .i64 (x65 - (1 : Int)))) (halterref02_Mul.l2_Q t1 t2 t57 t58 r)))))) ∧ ((decide (x64 < (4503599627370496 : Int))) = false → (((True) ∧ (True) ∧ True) ∧ halterref02_Mul.l2_Q t1 t2 t57 t58 r (.exit 0) ⟨[.any, .any, .any, .any, .any, .v (.one (.sc (.bool (!(t1 == t2))))), .v (.one (.ptr 0 ⟨0, 0, 0, 0⟩)), .v (.one (.ptr 1 ⟨0, 0, 0, 0⟩)), .any, .any, .any, .any, .any, .any, .any, .any, .any, .any, .any, .any, .any, .any, .any, .any, .any, .any, .any, .any, .any, .any, .any, .any, .any, .any, .any, .any, .any, .any, .any, .any, .any, .any, .any, .any, .any, .any, .any, .any, .any, .any, .any, .any, .any, .any, .any, .any, .any, .any, .any, .any, .any, .any, .any, .any, .any, .any, .any, .any, .any, .any, .any, .any, .any, .any, .any, .any, .any, .any, .any, .any, .any, .any, .any, .any, .any, .any, .any, .any, .any, .any, .any, .any, .any, .any, .any, .any, .any, .any, .any, .any, .any, .any, .any, .any, .any, .any, .any, .any, .any], [.ex false [.c (.sc (.bool t57.1)), .c (.sc (.int .u64 x64)), .c (.sc (.int .i64 x65)), .c (.sc (.bool (z3 t57)))] 44, .ex false [.c (.sc (.bool t58.1)), .c (.sc (.int .u64 t58.2.1)), .c (.sc (.int .i64 (p2 t58))), .c (.sc (.bool (z3 t58)))] 44], 0⟩)))) (by kernel_rfl) ?_)
    refine ⟨trivial, ?_⟩
    refine ⟨trivial, ?_⟩
    refine ⟨fun b70 => ?_, fun b70 => ?_⟩
    · rw [if_pos (of_decide_eq_true b70)] at h
      refine ⟨trivial, ?_⟩
      refine ⟨trivial, ?_⟩
      refine ⟨trivial, ?_⟩
      refine ⟨trivial, ?_⟩
      refine ⟨trivial, ?_⟩
      refine ⟨trivial, ?_⟩
      refine ⟨trivial, ?_⟩
      refine ⟨trivial, ?_⟩
      refine ⟨trivial, ?_⟩
      exact ⟨⟨trivial, trivial, trivial⟩, ih (IntKind.wrap .u64 ((2 : Int) * x64)) (IntKind.wrap .i64 (x65 - (1 : Int))) r h⟩
    · rw [if_neg (of_decide_eq_false b70)] at h
      obtain rfl := Option.some.inj h
      exact ⟨⟨trivial, trivial, trivial⟩, rfl, rfl⟩
def halterref02_Mul.l3 (t1 : Bool) (t2 : Bool) (t57 : Bool × Int × Int × Bool) (t58 : Bool × Int × Int × Bool) (t69 : Int × Int) : Nat → Int → Int → Option (Int × Int)
  | 0, _, _ => none
  | n + 1, x76, x77 =>
    if x76 < (4503599627370496 : Int) then
      halterref02_Mul.l3 t1 t2 t57 t58 t69 n (IntKind.wrap .u64 ((2 : Int) * x76)) (IntKind.wrap .i64 (x77 - (1 : Int)))
    else
      some (x76, x77)
def halterref02_Mul.l3_S (t1 : Bool) (t2 : Bool) (t57 : Bool × Int × Int × Bool) (t58 : Bool × Int × Int × Bool) (t69 : Int × Int) (x76 : Int) (x77 : Int) : St := ⟨[.any, .any, .any, .any, .any, .v (.one (.sc (.bool (!(t1 == t2))))), .v (.one (.ptr 0 ⟨0, 0, 0, 0⟩)), .v (.one (.ptr 1 ⟨0, 0, 0, 0⟩)), .any, .any, .any, .any, .any, .any, .any, .any, .any, .any, .any, .any, .any, .any, .any, .any, .any, .any, .any, .any, .any, .any, .any, .any, .any, .any, .any, .any, .any, .any, .any, .any, .any, .any, .any, .any, .any, .any, .any, .any, .any, .any, .any, .any, .any, .any, .any, .any, .any, .any, .any, .any, .any, .any, .any, .any, .any, .any, .any, .any, .any, .any, .any, .any, .any, .any, .any, .any, .any, .any, .any, .any, .any, .any, .any, .any, .any, .any, .any, .any, .any, .any, .any, .any, .any, .any, .any, .any, .any, .any, .any, .any, .any, .any, .any, .any, .any, .any, .any, .any, .any], [.ex false [.c (.sc (.bool t57.1)), .c (.sc (.int .u64 t69.1)), .c (.sc (.int .i64 t69.2)), .c (.sc (.bool t57.2.2.2))] 44, .ex false [.c (.sc (.bool t58.1)), .c (.sc (.int .u64 x76)), .c (.sc (.int .i64 x77)), .c (.sc (.bool t58.2.2.2))] 44], 0⟩
def halterref02_Mul.l3_Q (t1 : Bool) (t2 : Bool) (t57 : Bool × Int × Int × Bool) (t58 : Bool × Int × Int × Bool) (t69 : Int × Int) (t : Int × Int) : Exit → St → Prop := fun e s => e = (.exit 2) ∧ s = ⟨[.any, .any, .any, .any, .any, .v (.one (.sc (.bool (!(t1 == t2))))), .v (.one (.ptr 0 ⟨0, 0, 0, 0⟩)), .v (.one (.ptr 1 ⟨0, 0, 0, 0⟩)), .any, .any, .any, .any, .any, .any, .any, .any, .any, .any, .any, .any, .any, .any, .any, .any, .any, .any, .any, .any, .any, .any, .any, .any, .any, .any, .any, .any, .any, .any, .any, .any, .any, .any, .any, .any, .any, .any, .any, .any, .any, .any, .any, .any, .any, .any, .any, .any, .any, .any, .any, .any, .any, .any, .any, .any, .any, .any, .any, .any, .any, .any, .any, .any, .any, .any, .any, .any, .any, .any, .any, .any, .any, .any, .any, .any, .any, .any, .any, .any, .any, .any, .any, .any, .any, .any, .any, .any, .any, .any, .any, .any, .any, .any, .any, .any, .any, .any, .any, .any, .any], [.ex false [.c (.sc (.bool t57.1)), .c (.sc (.int .u64 t69.1)), .c (.sc (.int .i64 t69.2)), .c (.sc (.bool t57.2.2.2))] 44, .ex false [.c (.sc (.bool t58.1)), .c (.sc (.int .u64 t.1)), .c (.sc (.int .i64 t.2)), .c (.sc (.bool t58.2.2.2))] 44], 0⟩
theorem halterref02_Mul.l3_ok (t1 : Bool) (t2 : Bool) (t57 : Bool × Int × Int × Bool) (t58 : Bool × Int × Int × Bool) (t69 : Int × Int) : ∀ (n : Nat) (x76 : Int) (x77 : Int) (r : Int × Int), halterref02_Mul.l3 t1 t2 t57 t58 t69 n x76 x77 = some r → TripN cfg (cpath (Try.f10.body.getD .skip) [1, 1, 1, 1, 1, 1, 1, 0, 0, 0]) n (halterref02_Mul.l3_S t1 t2 t57 t58 t69 x76 x77) (halterref02_Mul.l3_Q t1 t2 t57 t58 t69 r) := by
  intro n
  induction n with
  | zero => intro x76 x77 r h; cases h
  | succ n ih =>
    intro x76 x77 r h
    rw [halterref02_Mul.l3] at h
    refine TripN.of_run cfg_ok (k := (.br (.adj [] (.adj [] (.adj [] (.adj [.keep [5, 6, 7], .drop 2] .nil)))) (.adj [.keep [5, 6, 7], .drop 2] .nil))) (to_goal (q := (True) ∧ (True) ∧ (((decide (x76 < (4503599627370496 : Int))) = true → (True ∧ (True ∧ (True ∧ (True) ∧ (True) ∧ (True) ∧ (True) ∧ (True) ∧ (True) ∧ (((True) ∧ (True) ∧ True) ∧ TripN cfg (cpath (Try.f10.body.getD .skip) [1, 1, 1, 1, 1, 1, 1, 0, 0, 0]) n (halterref02_Mul.l3_S t1 t2 t57 t58 t69 (IntKind.wrap .u64 ((2 : Int) * x76)) (IntKind.wrap .i64 (x77 - (1 : Int)))) (halterref02_Mul.l3_Q t1 t2 t57 t58 t69 r)))))) ∧ ((decide (x76 < (4503599627370496 : Int))) = false → (((True) ∧ (True) ∧ True) ∧ halterref02_Mul.l3_Q t1 t2 t57 t58 t69 r (.exit 2) ⟨[.any, .any, .any, .any, .any, .v (.one (.sc (.bool (!(t1 == t2))))), .v (.one (.ptr 0 ⟨0, 0, 0, 0⟩)), .v (.one (.ptr 1 ⟨0, 0, 0, 0⟩)), .any, .any, .any, .any, .any, .any, .any, .any, .any, .any, .any, .any, .any, .any, .any, .any, .any, .any, .any, .any, .any, .any, .any, .any, .any, .any, .any, .any, .any, .any, .any, .any, .any, .any, .any, .any, .any, .any, .any, .any, .any, .any, .any, .any, .any, .any, .any, .any, .any, .any, .any, .any, .any, .any, .any, .any, .any, .any, .any, .any, .any, .any, .any, .any, .any, .any, .any, .any, .any, .any, .any, .any, .any, .any, .any, .any, .any, .any, .any, .any, .any, .any, .any, .any, .any, .any, .any, .any, .any, .any, .any, .any, .any, .any, .any, .any, .any, .any, .any, .any, .any], [.ex false [.c (.sc (.bool t57.1)), .c (.sc (.int .u64 t69.1)), .c (.sc (.int .i64 t69.2)), .c (.sc (.bool (z3 t57)))] 44, .ex false [.c (.sc (.bool t58.1)), .c (.sc (.int .u64 x76)), .c (.sc (.int .i64 x77)), .c (.sc (.bool (z3 t58)))] 44], 0⟩)))) (by kernel_rfl) ?_)
    refine ⟨trivial, ?_⟩
    refine ⟨trivial, ?_⟩
    refine ⟨fun b82 => ?_, fun b82 => ?_⟩
    · rw [if_pos (of_decide_eq_true b82)] at h
      refine ⟨trivial, ?_⟩
      refine ⟨trivial, ?_⟩
      refine ⟨trivial, ?_⟩
      refine ⟨trivial, ?_⟩
      refine ⟨trivial, ?_⟩
      refine ⟨trivial, ?_⟩
      refine ⟨trivial, ?_⟩
      refine ⟨trivial, ?_⟩
      refine ⟨trivial, ?_⟩
      exact ⟨⟨trivial, trivial, trivial⟩, ih (IntKind.wrap .u64 ((2 : Int) * x76)) (IntKind.wrap .i64 (x77 - (1 : Int))) r h⟩
    · rw [if_neg (of_decide_eq_false b82)] at h
      obtain rfl := Option.some.inj h
      exact ⟨⟨trivial, trivial, trivial⟩, rfl, rfl⟩
def halterref02_Mul.l4 (t1 : Bool) (t2 : Bool) (t99 : Bool × Int × Int × Bool) (t100 : Bool × Int × Int × Bool) : Nat → Int → Int → Option (Int × Int)
  | 0, _, _ => none
  | n + 1, x106, x107 =>
    if x106 < (4503599627370496 : Int) then
      halterref02_Mul.l4 t1 t2 t99 t100 n (IntKind.wrap .u64 ((2 : Int) * x106)) (IntKind.wrap .i64 (x107 - (1 : Int)))
    else
      some (x106, x107)
def halterref02_Mul.l4_S (t1 : Bool) (t2 : Bool) (t99 : Bool × Int × Int × Bool) (t100 : Bool × Int × Int × Bool) (x106 : Int) (x107 : Int) : St := ⟨[.any, .any, .any, .any, .any, .v (.one (.sc (.bool (!(t1 == t2))))), .v (.one (.ptr 0 ⟨0, 0, 0, 0⟩)), .v (.one (.ptr 1 ⟨0, 0, 0, 0⟩)), .any, .any, .any, .any, .any, .any, .any, .any, .any, .any, .any, .any, .any, .any, .any, .any, .any, .any, .any, .any, .any, .any, .any, .any, .any, .any, .any, .any, .any, .any, .any, .any, .any, .any, .any, .any, .any, .any, .any, .any, .any, .any, .any, .any, .any, .any, .any, .any, .any, .any, .any, .any, .any, .any, .any, .any, .any, .any, .any, .any, .any, .any, .any, .any, .any, .any, .any, .any, .any, .any, .any, .any, .any, .any, .any, .any, .any, .any, .any, .any, .any, .any, .any, .any, .any, .any, .any, .any, .any, .any, .any, .any, .any, .any, .any, .any, .any, .any, .any, .any, .any], [.ex false [.c (.sc (.bool t99.1)), .c (.sc (.int .u64 x106)), .c (.sc (.int .i64 x107)), .c (.sc (.bool t99.2.2.2))] 44, .ex false [.c (.sc (.bool t100.1)), .c (.sc (.int .u64 t100.2.1)), .c (.sc (.int .i64 t100.2.2.1)), .c (.sc (.bool t100.2.2.2))] 44], 0⟩
def halterref02_Mul.l4_Q (t1 : Bool) (t2 : Bool) (t99 : Bool × Int × Int × Bool) (t100 : Bool × Int × Int × Bool) (t : Int × Int) : Exit → St → Prop := fun e s => e = (.exit 0) ∧ s = ⟨[.any, .any, .any, .any, .any, .v (.one (.sc (.bool (!(t1 == t2))))), .v (.one (.ptr 0 ⟨0, 0, 0, 0⟩)), .v (.one (.ptr 1 ⟨0, 0, 0, 0⟩)), .any, .any, .any, .any, .any, .any, .any, .any, .any, .any, .any, .any, .any, .any, .any, .any, .any, .any, .any, .any, .any, .any, .any, .any, .any, .any, .any, .any, .any, .any, .any, .any, .any, .any, .any, .any, .any, .any, .any, .any, .any, .any, .any, .any, .any, .any, .any, .any, .any, .any, .any, .any, .any, .any, .any, .any, .any, .any, .any, .any, .any, .any, .any, .any, .any, .any, .any, .any, .any, .any, .any, .any, .any, .any, .any, .any, .any, .any, .any, .any, .any, .any, .any, .any, .any, .any, .any, .any, .any, .any, .any, .any, .any, .any, .any, .any, .any, .any, .any, .any, .any], [.ex false [.c (.sc (.bool t99.1)), .c (.sc (.int .u64 t.1)), .c (.sc (.int .i64 t.2)), .c (.sc (.bool t99.2.2.2))] 44, .ex false [.c (.sc (.bool t100.1)), .c (.sc (.int .u64 t100.2.1)), .c (.sc (.int .i64 t100.2.2.1)), .c (.sc (.bool t100.2.2.2))] 44], 0⟩
theorem halterref02_Mul.l4_ok (t1 : Bool) (t2 : Bool) (t99 : Bool × Int × Int × Bool) (t100 : Bool × Int × Int × Bool) : ∀ (n : Nat) (x106 : Int) (x107 : Int) (r : Int × Int), halterref02_Mul.l4 t1 t2 t99 t100 n x106 x107 = some r → TripN cfg (cpath (Try.f10.body.getD .skip) [1, 1, 1, 1, 1, 1, 0, 0, 0]) n (halterref02_Mul.l4_S t1 t2 t99 t100 x106 x107) (halterref02_Mul.l4_Q t1 t2 t99 t100 r) := by
  intro n
  induction n with
  | zero => intro x106 x107 r h; cases h
  | succ n ih =>
    intro x106 x107 r h
    rw [halterref02_Mul.l4] at h
    refine TripN.of_run cfg_ok (k := (.br (.adj [] (.adj [] (.adj [] (.adj [.keep [5, 6, 7], .drop 2] .nil)))) (.adj [.keep [5, 6, 7], .drop 2] .nil))) (to_goal (q := (True) ∧ (True) ∧ (((decide (x106 < (4503599627370496 : Int))) = true → (True ∧ (True ∧ (True ∧ (True) ∧ (True) ∧ (True) ∧ (True) ∧ (True) ∧ (True) ∧ (((True) ∧ (True) ∧ True) ∧ TripN cfg (cpath (Try.f10.body.getD .skip) [1, 1, 1, 1, 1, 1, 0, 0, 0]) n (halterref02_Mul.l4_S t1 t2 t99 t100 (IntKind.wrap .u64 ((2 : Int) * x106)) (IntKind.wrap .i64 (x107 - (1 : Int)))) (halterref02_Mul.l4_Q t1 t2 t99 t100 r)))))) ∧ ((decide (x106 < (4503599627370496 : Int))) = false → (((True) ∧ (True) ∧ True) ∧ halterref02_Mul.l4_Q t1 t2 t99 t100 r (.exit 0) ⟨[.any, .any, .any, .any, .any, .v (.one (.sc (.bool (!(t1 == t2))))), .v (.one (.ptr 0 ⟨0, 0, 0, 0⟩)), .v (.one (.ptr 1 ⟨0, 0, 0, 0⟩)), .any, .any, .any, .any, .any, .any, .any, .any, .any, .any, .any, .any, .any, .any, .any, .any, .any, .any, .any, .any, .any, .any, .any, .any, .any, .any, .any, .any, .any, .any, .any, .any, .any, .any, .any, .any, .any, .any, .any, .any, .any, .any, .any, .any, .any, .any, .any, .any, .any, .any, .any, .any, .any, .any, .any, .any, .any, .any, .any, .any, .any, .any, .any, .any, .any, .any, .any, .any, .any, .any, .any, .any, .any, .any, .any, .any, .any, .any, .any, .any, .any, .any, .any, .any, .any, .any, .any, .any, .any, .any, .any, .any, .any, .any, .any, .any, .any, .any, .any, .any, .any], [.ex false [.c (.sc (.bool t99.1)), .c (.sc (.int .u64 x106)), .c (.sc (.int .i64 x107)), .c (.sc (.bool (z3 t99)))] 44, .ex false [.c (.sc (.bool t100.1)), .c (.sc (.int .u64 t100.2.1)), .c (.sc (.int .i64 (p2 t100))), .c (.sc (.bool (z3 t100)))] 44], 0⟩)))) (by kernel_rfl) ?_)
    refine ⟨trivial, ?_⟩
    refine ⟨trivial, ?_⟩
    refine ⟨fun b112 => ?_, fun b112 => ?_⟩
    · rw [if_pos (of_decide_eq_true b112)] at h
      refine ⟨trivial, ?_⟩
      refine ⟨trivial, ?_⟩
      refine ⟨trivial, ?_⟩
      refine ⟨trivial, ?_⟩
      refine ⟨trivial, ?_⟩
      refine ⟨trivial, ?_⟩
      refine ⟨trivial, ?_⟩
      refine ⟨trivial, ?_⟩
      refine ⟨trivial, ?_⟩
      exact ⟨⟨trivial, trivial, trivial⟩, ih (IntKind.wrap .u64 ((2 : Int) * x106)) (IntKind.wrap .i64 (x107 - (1 : Int))) r h⟩
    · rw [if_neg (of_decide_eq_false b112)] at h
      obtain rfl := Option.some.inj h
      exact ⟨⟨trivial, trivial, trivial⟩, rfl, rfl⟩
def halterref02_Mul.l5 (t1 : Bool) (t2 : Bool) (t99 : Bool × Int × Int × Bool) (t100 : Bool × Int × Int × Bool) (t111 : Int × Int) : Nat → Int → Int → Option (Int × Int)
  | 0, _, _ => none
  | n + 1, x118, x119 =>
    if x118 < (4503599627370496 : Int) then
      halterref02_Mul.l5 t1 t2 t99 t100 t111 n (IntKind.wrap .u64 ((2 : Int) * x118)) (IntKind.wrap .i64 (x119 - (1 : Int)))
    else
      some (x118, x119)
def halterref02_Mul.l5_S (t1 : Bool) (t2 : Bool) (t99 : Bool × Int × Int × Bool) (t100 : Bool × Int × Int × Bool) (t111 : Int × Int) (x118 : Int) (x119 : Int) : St := ⟨[.any, .any, .any, .any, .any, .v (.one (.sc (.bool (!(t1 == t2))))), .v (.one (.ptr 0 ⟨0, 0, 0, 0⟩)), .v (.one (.ptr 1 ⟨0, 0, 0, 0⟩)), .any, .any, .any, .any, .any, .any, .any, .any, .any, .any, .any, .any, .any, .any, .any, .any, .any, .any, .any, .any, .any, .any, .any, .any, .any, .any, .any, .any, .any, .any, .any, .any, .any, .any, .any, .any, .any, .any, .any, .any, .any, .any, .any, .any, .any, .any, .any, .any, .any, .any, .any, .any, .any, .any, .any, .any, .any, .any, .any, .any, .any, .any, .any, .any, .any, .any, .any, .any, .any, .any, .any, .any, .any, .any, .any, .any, .any, .any, .any, .any, .any, .any, .any, .any, .any, .any, .any, .any, .any, .any, .any, .any, .any, .any, .any, .any, .any, .any, .any, .any, .any], [.ex false [.c (.sc (.bool t99.1)), .c (.sc (.int .u64 t111.1)), .c (.sc (.int .i64 t111.2)), .c (.sc (.bool t99.2.2.2))] 44, .ex false [.c (.sc (.bool t100.1)), .c (.sc (.int .u64 x118)), .c (.sc (.int .i64 x119)), .c (.sc (.bool t100.2.2.2))] 44], 0⟩
def halterref02_Mul.l5_Q (t1 : Bool) (t2 : Bool) (t99 : Bool × Int × Int × Bool) (t100 : Bool × Int × Int × Bool) (t111 : Int × Int) (t : Int × Int) : Exit → St → Prop := fun e s => e = (.exit 2) ∧ s = ⟨[.any, .any, .any, .any, .any, .v (.one (.sc (.bool (!(t1 == t2))))), .v (.one (.ptr 0 ⟨0, 0, 0, 0⟩)), .v (.one (.ptr 1 ⟨0, 0, 0, 0⟩)), .any, .any, .any, .any, .any, .any, .any, .any, .any, .any, .any, .any, .any, .any, .any, .any, .any, .any, .any, .any, .any, .any, .any, .any, .any, .any, .any, .any, .any, .any, .any, .any, .any, .any, .any, .any, .any, .any, .any, .any, .any, .any, .any, .any, .any, .any, .any, .any, .any, .any, .any, .any, .any, .any, .any, .any, .any, .any, .any, .any, .any, .any, .any, .any, .any, .any, .any, .any, .any, .any, .any, .any, .any, .any, .any, .any, .any, .any, .any, .any, .any, .any, .any, .any, .any, .any, .any, .any, .any, .any, .any, .any, .any, .any, .any, .any, .any, .any, .any, .any, .any], [.ex false [.c (.sc (.bool t99.1)), .c (.sc (.int .u64 t111.1)), .c (.sc (.int .i64 t111.2)), .c (.sc (.bool t99.2.2.2))] 44, .ex false [.c (.sc (.bool t100.1)), .c (.sc (.int .u64 t.1)), .c (.sc (.int .i64 t.2)), .c (.sc (.bool t100.2.2.2))] 44], 0⟩
theorem halterref02_Mul.l5_ok (t1 : Bool) (t2 : Bool) (t99 : Bool × Int × Int × Bool) (t100 : Bool × Int × Int × Bool) (t111 : Int × Int) : ∀ (n : Nat) (x118 : Int) (x119 : Int) (r : Int × Int), halterref02_Mul.l5 t1 t2 t99 t100 t111 n x118 x119 = some r → TripN cfg (cpath (Try.f10.body.getD .skip) [1, 1, 1, 1, 1, 1, 1, 0, 0, 0]) n (halterref02_Mul.l5_S t1 t2 t99 t100 t111 x118 x119) (halterref02_Mul.l5_Q t1 t2 t99 t100 t111 r) := by
  intro n
  induction n with
  | zero => intro x118 x119 r h; cases h
  | succ n ih =>
    intro x118 x119 r h
    rw [halterref02_Mul.l5] at h
    refine TripN.of_run cfg_ok (k := (.br (.adj [] (.adj [] (.adj [] (.adj [.keep [5, 6, 7], .drop 2] .nil)))) (.adj [.keep [5, 6, 7], .drop 2] .nil))) (to_goal (q := (True) ∧ (True) ∧ (((decide (x118 < (4503599627370496 : Int))) = true → (True ∧ (True ∧ (True ∧ (True) ∧ (True) ∧ (True) ∧ (True) ∧ (True) ∧ (True) ∧ (((True) ∧ (True) ∧ True) ∧ TripN cfg (cpath (Try.f10.body.getD .skip) [1, 1, 1, 1, 1, 1, 1, 0, 0, 0]) n (halterref02_Mul.l5_S t1 t2 t99 t100 t111 (IntKind.wrap .u64 ((2 : Int) * x118)) (IntKind.wrap .i64 (x119 - (1 : Int)))) (halterref02_Mul.l5_Q t1 t2 t99 t100 t111 r)))))) ∧ ((decide (x118 < (4503599627370496 : Int))) = false → (((True) ∧ (True) ∧ True) ∧ halterref02_Mul.l5_Q t1 t2 t99 t100 t111 r (.exit 2) ⟨[.any, .any, .any, .any, .any, .v (.one (.sc (.bool (!(t1 == t2))))), .v (.one (.ptr 0 ⟨0, 0, 0, 0⟩)), .v (.one (.ptr 1 ⟨0, 0, 0, 0⟩)), .any, .any, .any, .any, .any, .any, .any, .any, .any, .any, .any, .any, .any, .any, .any, .any, .any, .any, .any, .any, .any, .any, .any, .any, .any, .any, .any, .any, .any, .any, .any, .any, .any, .any, .any, .any, .any, .any, .any, .any, .any, .any, .any, .any, .any, .any, .any, .any, .any, .any, .any, .any, .any, .any, .any, .any, .any, .any, .any, .any, .any, .any, .any, .any, .any, .any, .any, .any, .any, .any, .any, .any, .any, .any, .any, .any, .any, .any, .any, .any, .any, .any, .any, .any, .any, .any, .any, .any, .any, .any, .any, .any, .any, .any, .any, .any, .any, .any, .any, .any, .any], [.ex false [.c (.sc (.bool t99.1)), .c (.sc (.int .u64 t111.1)), .c (.sc (.int .i64 t111.2)), .c (.sc (.bool (z3 t99)))] 44, .ex false [.c (.sc (.bool t100.1)), .c (.sc (.int .u64 x118)), .c (.sc (.int .i64 x119)), .c (.sc (.bool (z3 t100)))] 44], 0⟩)))) (by kernel_rfl) ?_)
    refine ⟨trivial, ?_⟩
    refine ⟨trivial, ?_⟩
    refine ⟨fun b124 => ?_, fun b124 => ?_⟩
    · rw [if_pos (of_decide_eq_true b124)] at h
      refine ⟨trivial, ?_⟩
      refine ⟨trivial, ?_⟩
      refine ⟨trivial, ?_⟩
      refine ⟨trivial, ?_⟩
      refine ⟨trivial, ?_⟩
      refine ⟨trivial, ?_⟩
      refine ⟨trivial, ?_⟩
      refine ⟨trivial, ?_⟩
      refine ⟨trivial, ?_⟩
      exact ⟨⟨trivial, trivial, trivial⟩, ih (IntKind.wrap .u64 ((2 : Int) * x118)) (IntKind.wrap .i64 (x119 - (1 : Int))) r h⟩
    · rw [if_neg (of_decide_eq_false b124)] at h
      obtain rfl := Option.some.inj h
      exact ⟨⟨trivial, trivial, trivial⟩, rfl, rfl⟩
def halterref02_Mul.l6 (t1 : Bool) (t2 : Bool) (t137 : Bool × Int × Int × Bool) (t138 : Bool × Int × Int × Bool) : Nat → Int → Int → Option (Int × Int)
  | 0, _, _ => none
  | n + 1, x144, x145 =>
    if x144 < (4503599627370496 : Int) then
      halterref02_Mul.l6 t1 t2 t137 t138 n (IntKind.wrap .u64 ((2 : Int) * x144)) (IntKind.wrap .i64 (x145 - (1 : Int)))
    else
      some (x144, x145)
def halterref02_Mul.l6_S (t1 : Bool) (t2 : Bool) (t137 : Bool × Int × Int × Bool) (t138 : Bool × Int × Int × Bool) (x144 : Int) (x145 : Int) : St := ⟨[.any, .any, .any, .any, .any, .v (.one (.sc (.bool (!(t1 == t2))))), .v (.one (.ptr 0 ⟨0, 0, 0, 0⟩)), .v (.one (.ptr 1 ⟨0, 0, 0, 0⟩)), .any, .any, .any, .any, .any, .any, .any, .any, .any, .any, .any, .any, .any, .any, .any, .any, .any, .any, .any, .any, .any, .any, .any, .any, .any, .any, .any, .any, .any, .any, .any, .any, .any, .any, .any, .any, .any, .any, .any, .any, .any, .any, .any, .any, .any, .any, .any, .any, .any, .any, .any, .any, .any, .any, .any, .any, .any, .any, .any, .any, .any, .any, .any, .any, .any, .any, .any, .any, .any, .any, .any, .any, .any, .any, .any, .any, .any, .any, .any, .any, .any, .any, .any, .any, .any, .any, .any, .any, .any, .any, .any, .any, .any, .any, .any, .any, .any, .any, .any, .any, .any], [.ex false [.c (.sc (.bool t137.1)), .c (.sc (.int .u64 x144)), .c (.sc (.int .i64 x145)), .c (.sc (.bool t137.2.2.2))] 44, .ex false [.c (.sc (.bool t138.1)), .c (.sc (.int .u64 t138.2.1)), .c (.sc (.int .i64 t138.2.2.1)), .c (.sc (.bool t138.2.2.2))] 44], 0⟩
def halterref02_Mul.l6_Q (t1 : Bool) (t2 : Bool) (t137 : Bool × Int × Int × Bool) (t138 : Bool × Int × Int × Bool) (t : Int × Int) : Exit → St → Prop := fun e s => e = (.exit 0) ∧ s = ⟨[.any, .any, .any, .any, .any, .v (.one (.sc (.bool (!(t1 == t2))))), .v (.one (.ptr 0 ⟨0, 0, 0, 0⟩)), .v (.one (.ptr 1 ⟨0, 0, 0, 0⟩)), .any, .any, .any, .any, .any, .any, .any, .any, .any, .any, .any, .any, .any, .any, .any, .any, .any, .any, .any, .any, .any, .any, .any, .any, .any, .any, .any, .any, .any, .any, .any, .any, .any, .any, .any, .any, .any, .any, .any, .any, .any, .any, .any, .any, .any, .any, .any, .any, .any, .any, .any, .any, .any, .any, .any, .any, .any, .any, .any, .any, .any, .any, .any, .any, .any, .any, .any, .any, .any, .any, .any, .any, .any, .any, .any, .any, .any, .any, .any, .any, .any, .any, .any, .any, .any, .any, .any, .any, .any, .any, .any, .any, .any, .any, .any, .any, .any, .any, .any, .any, .any], [.ex false [.c (.sc (.bool t137.1)), .c (.sc (.int .u64 t.1)), .c (.sc (.int .i64 t.2)), .c (.sc (.bool t137.2.2.2))] 44, .ex false [.c (.sc (.bool t138.1)), .c (.sc (.int .u64 t138.2.1)), .c (.sc (.int .i64 t138.2.2.1)), .c (.sc (.bool t138.2.2.2))] 44], 0⟩
theorem halterref02_Mul.l6_ok (t1 : Bool) (t2 : Bool) (t137 : Bool × Int × Int × Bool) (t138 : Bool × Int × Int × Bool) : ∀ (n : Nat) (x144 : Int) (x145 : Int) (r : Int × Int), halterref02_Mul.l6 t1 t2 t137 t138 n x144 x145 = some r → TripN cfg (cpath (Try.f10.body.getD .skip) [1, 1, 1, 1, 1, 1, 0, 0, 0]) n (halterref02_Mul.l6_S t1 t2 t137 t138 x144 x145) (halterref02_Mul.l6_Q t1 t2 t137 t138 r) := by
  intro n
  induction n with
  | zero => intro x144 x145 r h; cases h
  | succ n ih =>
    intro x144 x145 r h
    rw [halterref02_Mul.l6] at h
    refine TripN.of_run cfg_ok (k := (.br (.adj [] (.adj [] (.adj [] (.adj [.keep [5, 6, 7], .drop 2] .nil)))) (.adj [.keep [5, 6, 7], .drop 2] .nil))) (to_goal (q := (True) ∧ (True) ∧ (((decide (x144 < (4503599627370496 : Int))) = true → (True ∧ (True ∧ (True ∧ (True) ∧ (True) ∧ (True) ∧ (True) ∧ (True) ∧ (True) ∧ (((True) ∧ (True) ∧ True) ∧ TripN cfg (cpath (Try.f10.body.getD .skip) [1, 1, 1, 1, 1, 1, 0, 0, 0]) n (halterref02_Mul.l6_S t1 t2 t137 t138 (IntKind.wrap .u64 ((2 : Int) * x144)) (IntKind.wrap .i64 (x145 - (1 : Int)))) (halterref02_Mul.l6_Q t1 t2 t137 t138 r)))))) ∧ ((decide (x144 < (4503599627370496 : Int))) = false → (((True) ∧ (True) ∧ True) ∧ halterref02_Mul.l6_Q t1 t2 t137 t138 r (.exit 0) ⟨[.any, .any, .any, .any, .any, .v (.one (.sc (.bool (!(t1 == t2))))), .v (.one (.ptr 0 ⟨0, 0, 0, 0⟩)), .v (.one (.ptr 1 ⟨0, 0, 0, 0⟩)), .any, .any, .any, .any, .any, .any, .any, .any, .any, .any, .any, .any, .any, .any, .any, .any, .any, .any, .any, .any, .any, .any, .any, .any, .any, .any, .any, .any, .any, .any, .any, .any, .any, .any, .any, .any, .any, .any, .any, .any, .any, .any, .any, .any, .any, .any, .any, .any, .any, .any, .any, .any, .any, .any, .any, .any, .any, .any, .any, .any, .any, .any, .any, .any, .any, .any, .any, .any, .any, .any, .any, .any, .any, .any, .any, .any, .any, .any, .any, .any, .any, .any, .any, .any, .any, .any, .any, .any, .any, .any, .any, .any, .any, .any, .any, .any, .any, .any, .any, .any, .any], [.ex false [.c (.sc (.bool t137.1)), .c (.sc (.int .u64 x144)), .c (.sc (.int .i64 x145)), .c (.sc (.bool (z3 t137)))] 44, .ex false [.c (.sc (.bool t138.1)), .c (.sc (.int .u64 t138.2.1)), .c (.sc (.int .i64 (p2 t138))), .c (.sc (.bool (z3 t138)))] 44], 0⟩)))) (by kernel_rfl) ?_)
    refine ⟨trivial, ?_⟩
    refine ⟨trivial, ?_⟩
    refine ⟨fun b150 => ?_, fun b150 => ?_⟩
    · rw [if_pos (of_decide_eq_true b150)] at h
      refine ⟨trivial, ?_⟩
      refine ⟨trivial, ?_⟩
      refine ⟨trivial, ?_⟩
      refine ⟨trivial, ?_⟩
      refine ⟨trivial, ?_⟩
      refine ⟨trivial, ?_⟩
      refine ⟨trivial, ?_⟩
      refine ⟨trivial, ?_⟩
      refine ⟨trivial, ?_⟩
      exact ⟨⟨trivial, trivial, trivial⟩, ih (IntKind.wrap .u64 ((2 : Int) * x144)) (IntKind.wrap .i64 (x145 - (1 : Int))) r h⟩
    · rw [if_neg (of_decide_eq_false b150)] at h
      obtain rfl := Option.some.inj h
      exact ⟨⟨trivial, trivial, trivial⟩, rfl, rfl⟩
def halterref02_Mul.l7 (t1 : Bool) (t2 : Bool) (t137 : Bool × Int × Int × Bool) (t138 : Bool × Int × Int × Bool) (t149 : Int × Int) : Nat → Int → Int → Option (Int × Int)
  | 0, _, _ => none
  | n + 1, x156, x157 =>
    if x156 < (4503599627370496 : Int) then
      halterref02_Mul.l7 t1 t2 t137 t138 t149 n (IntKind.wrap .u64 ((2 : Int) * x156)) (IntKind.wrap .i64 (x157 - (1 : Int)))
    else
      some (x156, x157)
def halterref02_Mul.l7_S (t1 : Bool) (t2 : Bool) (t137 : Bool × Int × Int × Bool) (t138 : Bool × Int × Int × Bool) (t149 : Int × Int) (x156 : Int) (x157 : Int) : St := ⟨[.any, .any, .any, .any, .any, .v (.one (.sc (.bool (!(t1 == t2))))), .v (.one (.ptr 0 ⟨0, 0, 0, 0⟩)), .v (.one (.ptr 1 ⟨0, 0, 0, 0⟩)), .any, .any, .any, .any, .any, .any, .any, .any, .any, .any, .any, .any, .any, .any, .any, .any, .any, .any, .any, .any, .any, .any, .any, .any, .any, .any, .any, .any, .any, .any, .any, .any, .any, .any, .any, .any, .any, .any, .any, .any, .any, .any, .any, .any, .any, .any, .any, .any, .any, .any, .any, .any, .any, .any, .any, .any, .any, .any, .any, .any, .any, .any, .any, .any, .any, .any, .any, .any, .any, .any, .any, .any, .any, .any, .any, .any, .any, .any, .any, .any, .any, .any, .any, .any, .any, .any, .any, .any, .any, .any, .any, .any, .any, .any, .any, .any, .any, .any, .any, .any, .any], [.ex false [.c (.sc (.bool t137.1)), .c (.sc (.int .u64 t149.1)), .c (.sc (.int .i64 t149.2)), .c (.sc (.bool t137.2.2.2))] 44, .ex false [.c (.sc (.bool t138.1)), .c (.sc (.int .u64 x156)), .c (.sc (.int .i64 x157)), .c (.sc (.bool t138.2.2.2))] 44], 0⟩
def halterref02_Mul.l7_Q (t1 : Bool) (t2 : Bool) (t137 : Bool × Int × Int × Bool) (t138 : Bool × Int × Int × Bool) (t149 : Int × Int) (t : Int × Int) : Exit → St → Prop := fun e s => e = (.exit 2) ∧ s = ⟨[.any, .any, .any, .any, .any, .v (.one (.sc (.bool (!(t1 == t2))))), .v (.one (.ptr 0 ⟨0, 0, 0, 0⟩)), .v (.one (.ptr 1 ⟨0, 0, 0, 0⟩)), .any, .any, .any, .any, .any, .any, .any, .any, .any, .any, .any, .any, .any, .any, .any, .any, .any, .any, .any, .any, .any, .any, .any, .any, .any, .any, .any, .any, .any, .any, .any, .any, .any, .any, .any, .any, .any, .any, .any, .any, .any, .any, .any, .any, .any, .any, .any, .any, .any, .any, .any, .any, .any, .any, .any, .any, .any, .any, .any, .any, .any, .any, .any, .any, .any, .any, .any, .any, .any, .any, .any, .any, .any, .any, .any, .any, .any, .any, .any, .any, .any, .any, .any, .any, .any, .any, .any, .any, .any, .any, .any, .any, .any, .any, .any, .any, .any, .any, .any, .any, .any], [.ex false [.c (.sc (.bool t137.1)), .c (.sc (.int .u64 t149.1)), .c (.sc (.int .i64 t149.2)), .c (.sc (.bool t137.2.2.2))] 44, .ex false [.c (.sc (.bool t138.1)), .c (.sc (.int .u64 t.1)), .c (.sc (.int .i64 t.2)), .c (.sc (.bool t138.2.2.2))] 44], 0⟩
theorem halterref02_Mul.l7_ok (t1 : Bool) (t2 : Bool) (t137 : Bool × Int × Int × Bool) (t138 : Bool × Int × Int × Bool) (t149 : Int × Int) : ∀ (n : Nat) (x156 : Int) (x157 : Int) (r : Int × Int), halterref02_Mul.l7 t1 t2 t137 t138 t149 n x156 x157 = some r → TripN cfg (cpath (Try.f10.body.getD .skip) [1, 1, 1, 1, 1, 1, 1, 0, 0, 0]) n (halterref02_Mul.l7_S t1 t2 t137 t138 t149 x156 x157) (halterref02_Mul.l7_Q t1 t2 t137 t138 t149 r) := by
  intro n
  induction n with
  | zero => intro x156 x157 r h; cases h
  | succ n ih =>
    intro x156 x157 r h
    rw [halterref02_Mul.l7] at h
    refine TripN.of_run cfg_ok (k := (.br (.adj [] (.adj [] (.adj [] (.adj [.keep [5, 6, 7], .drop 2] .nil)))) (.adj [.keep [5, 6, 7], .drop 2] .nil))) (to_goal (q := (True) ∧ (True) ∧ (((decide (x156 < (4503599627370496 : Int))) = true → (True ∧ (True ∧ (True ∧ (True) ∧ (True) ∧ (True) ∧ (True) ∧ (True) ∧ (True) ∧ (((True) ∧ (True) ∧ True) ∧ TripN cfg (cpath (Try.f10.body.getD .skip) [1, 1, 1, 1, 1, 1, 1, 0, 0, 0]) n (halterref02_Mul.l7_S t1 t2 t137 t138 t149 (IntKind.wrap .u64 ((2 : Int) * x156)) (IntKind.wrap .i64 (x157 - (1 : Int)))) (halterref02_Mul.l7_Q t1 t2 t137 t138 t149 r)))))) ∧ ((decide (x156 < (4503599627370496 : Int))) = false → (((True) ∧ (True) ∧ True) ∧ halterref02_Mul.l7_Q t1 t2 t137 t138 t149 r (.exit 2) ⟨[.any, .any, .any, .any, .any, .v (.one (.sc (.bool (!(t1 == t2))))), .v (.one (.ptr 0 ⟨0, 0, 0, 0⟩)), .v (.one (.ptr 1 ⟨0, 0, 0, 0⟩)), .any, .any, .any, .any, .any, .any, .any, .any, .any, .any, .any, .any, .any, .any, .any, .any, .any, .any, .any, .any, .any, .any, .any, .any, .any, .any, .any, .any, .any, .any, .any, .any, .any, .any, .any, .any, .any, .any, .any, .any, .any, .any, .any, .any, .any, .any, .any, .any, .any, .any, .any, .any, .any, .any, .any, .any, .any, .any, .any, .any, .any, .any, .any, .any, .any, .any, .any, .any, .any, .any, .any, .any, .any, .any, .any, .any, .any, .any, .any, .any, .any, .any, .any, .any, .any, .any, .any, .any, .any, .any, .any, .any, .any, .any, .any, .any, .any, .any, .any, .any, .any], [.ex false [.c (.sc (.bool t137.1)), .c (.sc (.int .u64 t149.1)), .c (.sc (.int .i64 t149.2)), .c (.sc (.bool (z3 t137)))] 44, .ex false [.c (.sc (.bool t138.1)), .c (.sc (.int .u64 x156)), .c (.sc (.int .i64 x157)), .c (.sc (.bool (z3 t138)))] 44], 0⟩)))) (by kernel_rfl) ?_)
    refine ⟨trivial, ?_⟩
    refine ⟨trivial, ?_⟩
    refine ⟨fun b162 => ?_, fun b162 => ?_⟩
    · rw [if_pos (of_decide_eq_true b162)] at h
      refine ⟨trivial, ?_⟩
      refine ⟨trivial, ?_⟩
      refine ⟨trivial, ?_⟩
      refine ⟨trivial, ?_⟩
      refine ⟨trivial, ?_⟩
      refine ⟨trivial, ?_⟩
      refine ⟨trivial, ?_⟩
      refine ⟨trivial, ?_⟩
      refine ⟨trivial, ?_⟩
      exact ⟨⟨trivial, trivial, trivial⟩, ih (IntKind.wrap .u64 ((2 : Int) * x156)) (IntKind.wrap .i64 (x157 - (1 : Int))) r h⟩
    · rw [if_neg (of_decide_eq_false b162)] at h
      obtain rfl := Option.some.inj h
      exact ⟨⟨trivial, trivial, trivial⟩, rfl, rfl⟩
def halterref02_Mul.f (a0 : Int) (a1 : Int) : Option Int :=
  (halterref02_Neg.f a0).bind fun t1 =>
  (halterref02_Neg.f a1).bind fun t2 =>
  (halterref02_none.f a0 a1).bind fun t3 =>
  if t3 = true then
    some (9221120237041090560 : Int)
  else
    (halterref02_Class.f a0).bind fun t5 =>
    if t5 = (3 : Int) then
      (halterref02_Class.f a1).bind fun t7 =>
      if t7 = (0 : Int) then
        some (9221120237041090560 : Int)
      else
        (halterref02_Class.f a0).bind fun t9 =>
        if t9 = (0 : Int) then
          (halterref02_Class.f a1).bind fun t11 =>
          if t11 = (3 : Int) then
            some (9221120237041090560 : Int)
          else
            (halterref02_Class.f a0).bind fun t13 =>
            if t13 = (3 : Int) then
              (halterref02_signed.f (!(t1 == t2)) (9218868437227405312 : Int)).bind fun t15 =>
              some t15
            else
              (halterref02_Class.f a1).bind fun t16 =>
              if t16 = (3 : Int) then
                (halterref02_signed.f (!(t1 == t2)) (9218868437227405312 : Int)).bind fun t18 =>
                some t18
              else
                (halterref02_Open.f a0).bind fun t19 =>
                (halterref02_Open.f a1).bind fun t20 =>
                if t19.2.1 = (0 : Int) then
                  (halterref02_signed.f (!(t1 == t2)) (0 : Int)).bind fun t22 =>
                  some t22
                else
                  if t20.2.1 = (0 : Int) then
                    (halterref02_signed.f (!(t1 == t2)) (0 : Int)).bind fun t24 =>
                    some t24
                  else
                    (halterref02_Mul.l0 t1 t2 t19 t20 FUEL t19.2.1 t19.2.2.1).bind fun t31 =>
                    (halterref02_Mul.l1 t1 t2 t19 t20 t31 FUEL t20.2.1 t20.2.2.1).bind fun t43 =>
                    (halterref02_Product.f t31.1 t43.1).bind fun t49 =>
                    (halterref02_Round.f (!(t1 == t2)) (IntKind.wrap .u64 ((IntKind.wrap .u64 ((256 : Int) * t49.1)) + (IntKind.wrap .u64 (Int.tdiv t49.2 (70368744177664 : Int))))) (IntKind.wrap .i64 ((IntKind.wrap .i64 (t31.2 + t43.2)) + (46 : Int))) (decide ((Int.tmod t49.2 (70368744177664 : Int)) > (0 : Int)))).bind fun t50 =>
                    some t50
        else
          (halterref02_Class.f a0).bind fun t51 =>
          if t51 = (3 : Int) then
            (halterref02_signed.f (!(t1 == t2)) (9218868437227405312 : Int)).bind fun t53 =>
            some t53
          else
            (halterref02_Class.f a1).bind fun t54 =>
            if t54 = (3 : Int) then
              (halterref02_signed.f (!(t1 == t2)) (9218868437227405312 : Int)).bind fun t56 =>
              some t56
            else
              (halterref02_Open.f a0).bind fun t57 =>
              (halterref02_Open.f a1).bind fun t58 =>
              if t57.2.1 = (0 : Int) then
                (halterref02_signed.f (!(t1 == t2)) (0 : Int)).bind fun t60 =>
                some t60
              else
                if t58.2.1 = (0 : Int) then
                  (halterref02_signed.f (!(t1 == t2)) (0 : Int)).bind fun t62 =>
                  some t62
                else
                  (halterref02_Mul.l2 t1 t2 t57 t58 FUEL t57.2.1 t57.2.2.1).bind fun t69 =>
                  (halterref02_Mul.l3 t1 t2 t57 t58 t69 FUEL t58.2.1 t58.2.2.1).bind fun t81 =>
                  (halterref02_Product.f t69.1 t81.1).bind fun t87 =>
                  (halterref02_Round.f (!(t1 == t2)) (IntKind.wrap .u64 ((IntKind.wrap .u64 ((256 : Int) * t87.1)) + (IntKind.wrap .u64 (Int.tdiv t87.2 (70368744177664 : Int))))) (IntKind.wrap .i64 ((IntKind.wrap .i64 (t69.2 + t81.2)) + (46 : Int))) (decide ((Int.tmod t87.2 (70368744177664 : Int)) > (0 : Int)))).bind fun t88 =>
                  some t88
    else
      (halterref02_Class.f a0).bind fun t89 =>
      if t89 = (0 : Int) then
        (halterref02_Class.f a1).bind fun t91 =>
        if t91 = (3 : Int) then
          some (9221120237041090560 : Int)
        else
          (halterref02_Class.f a0).bind fun t93 =>
          if t93 = (3 : Int) then
            (halterref02_signed.f (!(t1 == t2)) (9218868437227405312 : Int)).bind fun t95 =>
            some t95
          else
            (halterref02_Class.f a1).bind fun t96 =>
            if t96 = (3 : Int) then
              (halterref02_signed.f (!(t1 == t2)) (9218868437227405312 : Int)).bind fun t98 =>
              some t98
            else
              (halterref02_Open.f a0).bind fun t99 =>
              (halterref02_Open.f a1).bind fun t100 =>
              if t99.2.1 = (0 : Int) then
                (halterref02_signed.f (!(t1 == t2)) (0 : Int)).bind fun t102 =>
                some t102
              else
                if t100.2.1 = (0 : Int) then
                  (halterref02_signed.f (!(t1 == t2)) (0 : Int)).bind fun t104 =>
                  some t104
                else
                  (halterref02_Mul.l4 t1 t2 t99 t100 FUEL t99.2.1 t99.2.2.1).bind fun t111 =>
                  (halterref02_Mul.l5 t1 t2 t99 t100 t111 FUEL t100.2.1 t100.2.2.1).bind fun t123 =>
                  (halterref02_Product.f t111.1 t123.1).bind fun t129 =>
                  (halterref02_Round.f (!(t1 == t2)) (IntKind.wrap .u64 ((IntKind.wrap .u64 ((256 : Int) * t129.1)) + (IntKind.wrap .u64 (Int.tdiv t129.2 (70368744177664 : Int))))) (IntKind.wrap .i64 ((IntKind.wrap .i64 (t111.2 + t123.2)) + (46 : Int))) (decide ((Int.tmod t129.2 (70368744177664 : Int)) > (0 : Int)))).bind fun t130 =>
                  some t130
      else
        (halterref02_Class.f a0).bind fun t131 =>
        if t131 = (3 : Int) then
          (halterref02_signed.f (!(t1 == t2)) (9218868437227405312 : Int)).bind fun t133 =>
          some t133
        else
          (halterref02_Class.f a1).bind fun t134 =>
          if t134 = (3 : Int) then
            (halterref02_signed.f (!(t1 == t2)) (9218868437227405312 : Int)).bind fun t136 =>
            some t136
          else
            (halterref02_Open.f a0).bind fun t137 =>
            (halterref02_Open.f a1).bind fun t138 =>
            if t137.2.1 = (0 : Int) then
              (halterref02_signed.f (!(t1 == t2)) (0 : Int)).bind fun t140 =>
              some t140
            else
              if t138.2.1 = (0 : Int) then
                (halterref02_signed.f (!(t1 == t2)) (0 : Int)).bind fun t142 =>
                some t142
              else
                (halterref02_Mul.l6 t1 t2 t137 t138 FUEL t137.2.1 t137.2.2.1).bind fun t149 =>
                (halterref02_Mul.l7 t1 t2 t137 t138 t149 FUEL t138.2.1 t138.2.2.1).bind fun t161 =>
                (halterref02_Product.f t149.1 t161.1).bind fun t167 =>
                (halterref02_Round.f (!(t1 == t2)) (IntKind.wrap .u64 ((IntKind.wrap .u64 ((256 : Int) * t167.1)) + (IntKind.wrap .u64 (Int.tdiv t167.2 (70368744177664 : Int))))) (IntKind.wrap .i64 ((IntKind.wrap .i64 (t149.2 + t161.2)) + (46 : Int))) (decide ((Int.tmod t167.2 (70368744177664 : Int)) > (0 : Int)))).bind fun t168 =>
                some t168
def halterref02_Mul.R (r : Int) : Tm := .v (.one (.sc (.int .u64 r)))
theorem halterref02_Mul.fun_ {a0 : Int} {a1 : Int} {r : Int} (h : halterref02_Mul.f a0 a1 = some r) : Fun cfg 10 [.one (.sc (.int .u64 a0)), .one (.sc (.int .u64 a1))] [] (halterref02_Mul.R r) [] := by
  unfold halterref02_Mul.f at h
  refine fun_of_run cfg_ok (f := 10) (fn := Try.f10) Try.func10 rfl (by kernel_rfl) (rs := [.tmp 4]) rfl (nt := 109) rfl (l := fin) (k := (.call true [] (Bool) (fun t1 => halterref02_Neg.R t1) (fun t1 => (.call true [] (Bool) (fun t2 => halterref02_Neg.R t2) (fun t2 => (.call true [] (Bool) (fun t3 => halterref02_none.R t3) (fun t3 => (.br (.one true (.one true (.one true (.one true (.one true (.one true (.one true (.one true (.one true (.one true (.one true (.one true (.adj [] (.adj [] (.adj [] .nil))))))))))))))) (.one false (.call true [] (Int) (fun t5 => halterref02_Class.R t5) (fun t5 => (.one false (.one false (.br (.one true (.call true [] (Int) (fun t7 => halterref02_Class.R t7) (fun t7 => (.one true (.one false (.one true (.one false (.br (.one true (.one true (.one true (.one true (.one true (.one true (.adj [] (.adj [] (.adj [] .nil))))))))) (.one false (.call true [] (Int) (fun t9 => halterref02_Class.R t9) (fun t9 => (.one false (.one false (.br (.one true (.call true [] (Int) (fun t11 => halterref02_Class.R t11) (fun t11 => (.one true (.one false (.one true (.one false (.br (.adj [] (.adj [] (.adj [] .nil))) (.call true [] (Int) (fun t13 => halterref02_Class.R t13) (fun t13 => (.br (.one true (.one true (.one true (.one true (.call true [] (Int) (fun t15 => halterref02_signed.R t15) (fun t15 => (.adj [] (.adj [] .nil)))))))) (.one false (.call true [] (Int) (fun t16 => halterref02_Class.R t16) (fun t16 => (.one false (.one false (.br (.call true [] (Int) (fun t18 => halterref02_signed.R t18) (fun t18 => (.adj [] (.adj [] .nil)))) (.call true [] (Bool × Int × Int × Bool) (fun t19 => halterref02_Open.R t19) (fun t19 => (.call true [] (Bool × Int × Int × Bool) (fun t20 => halterref02_Open.R t20) (fun t20 => (.br (.one true (.one true (.one true (.one true (.call true [] (Int) (fun t22 => halterref02_signed.R t22) (fun t22 => (.adj [] (.adj [.drop 0] .nil)))))))) (.one false (.one false (.one false (.br (.call true [] (Int) (fun t24 => halterref02_signed.R t24) (fun t24 => (.adj [] (.adj [.drop 0] .nil)))) (.adj [] (.adj [] (.adj [.keep [5, 6, 7]] (.sub (Int × Int) (fun _ => (.exit 0)) (fun t31 => ⟨[.any, .any, .any, .any, .any, .v (.one (.sc (.bool (!(t1 == t2))))), .v (.one (.ptr 0 ⟨0, 0, 0, 0⟩)), .v (.one (.ptr 1 ⟨0, 0, 0, 0⟩)), .any, .any, .any, .any, .any, .any, .any, .any, .any, .any, .any, .any, .any, .any, .any, .any, .any, .any, .any, .any, .any, .any, .any, .any, .any, .any, .any, .any, .any, .any, .any, .any, .any, .any, .any, .any, .any, .any, .any, .any, .any, .any, .any, .any, .any, .any, .any, .any, .any, .any, .any, .any, .any, .any, .any, .any, .any, .any, .any, .any, .any, .any, .any, .any, .any, .any, .any, .any, .any, .any, .any, .any, .any, .any, .any, .any, .any, .any, .any, .any, .any, .any, .any, .any, .any, .any, .any, .any, .any, .any, .any, .any, .any, .any, .any, .any, .any, .any, .any, .any, .any], [.ex false [.c (.sc (.bool t19.1)), .c (.sc (.int .u64 t31.1)), .c (.sc (.int .i64 t31.2)), .c (.sc (.bool (z3 t19)))] 44, .ex false [.c (.sc (.bool t20.1)), .c (.sc (.int .u64 t20.2.1)), .c (.sc (.int .i64 (p2 t20))), .c (.sc (.bool (z3 t20)))] 44], 0⟩) (fun t31 => (.adj [] (.adj [.keep [5, 6, 7]] (.sub (Int × Int) (fun _ => (.exit 2)) (fun t43 => ⟨[.any, .any, .any, .any, .any, .v (.one (.sc (.bool (!(t1 == t2))))), .v (.one (.ptr 0 ⟨0, 0, 0, 0⟩)), .v (.one (.ptr 1 ⟨0, 0, 0, 0⟩)), .any, .any, .any, .any, .any, .any, .any, .any, .any, .any, .any, .any, .any, .any, .any, .any, .any, .any, .any, .any, .any, .any, .any, .any, .any, .any, .any, .any, .any, .any, .any, .any, .any, .any, .any, .any, .any, .any, .any, .any, .any, .any, .any, .any, .any, .any, .any, .any, .any, .any, .any, .any, .any, .any, .any, .any, .any, .any, .any, .any, .any, .any, .any, .any, .any, .any, .any, .any, .any, .any, .any, .any, .any, .any, .any, .any, .any, .any, .any, .any, .any, .any, .any, .any, .any, .any, .any, .any, .any, .any, .any, .any, .any, .any, .any, .any, .any, .any, .any, .any, .any], [.ex false [.c (.sc (.bool t19.1)), .c (.sc (.int .u64 t31.1)), .c (.sc (.int .i64 t31.2)), .c (.sc (.bool (z3 t19)))] 44, .ex false [.c (.sc (.bool t20.1)), .c (.sc (.int .u64 t43.1)), .c (.sc (.int .i64 t43.2)), .c (.sc (.bool (z3 t20)))] 44], 0⟩) (fun t43 => (.call true [] (Int × Int) (fun t49 => halterref02_Product.R t49) (fun t49 => (.call true [] (Int) (fun t50 => halterref02_Round.R t50) (fun t50 => (.adj [] (.adj [.drop 0] .nil))))))))))))))))))))))))))))))))))))))))) (.one false (.one false (.one false (.one false (.one false (.one false (.call true [] (Int) (fun t51 => halterref02_Class.R t51) (fun t51 => (.br (.one true (.one true (.one true (.one true (.call true [] (Int) (fun t53 => halterref02_signed.R t53) (fun t53 => (.adj [] (.adj [] .nil)))))))) (.one false (.call true [] (Int) (fun t54 => halterref02_Class.R t54) (fun t54 => (.one false (.one false (.br (.call true [] (Int) (fun t56 => halterref02_signed.R t56) (fun t56 => (.adj [] (.adj [] .nil)))) (.call true [] (Bool × Int × Int × Bool) (fun t57 => halterref02_Open.R t57) (fun t57 => (.call true [] (Bool × Int × Int × Bool) (fun t58 => halterref02_Open.R t58) (fun t58 => (.br (.one true (.one true (.one true (.one true (.call true [] (Int) (fun t60 => halterref02_signed.R t60) (fun t60 => (.adj [] (.adj [.drop 0] .nil)))))))) (.one false (.one false (.one false (.br (.call true [] (Int) (fun t62 => halterref02_signed.R t62) (fun t62 => (.adj [] (.adj [.drop 0] .nil)))) (.adj [] (.adj [] (.adj [.keep [5, 6, 7]] (.sub (Int × Int) (fun _ => (.exit 0)) (fun t69 => ⟨[.any, .any, .any, .any, .any, .v (.one (.sc (.bool (!(t1 == t2))))), .v (.one (.ptr 0 ⟨0, 0, 0, 0⟩)), .v (.one (.ptr 1 ⟨0, 0, 0, 0⟩)), .any, .any, .any, .any, .any, .any, .any, .any, .any, .any, .any, .any, .any, .any, .any, .any, .any, .any, .any, .any, .any, .any, .any, .any, .any, .any, .any, .any, .any, .any, .any, .any, .any, .any, .any, .any, .any, .any, .any, .any, .any, .any, .any, .any, .any, .any, .any, .any, .any, .any, .any, .any, .any, .any, .any, .any, .any, .any, .any, .any, .any, .any, .any, .any, .any, .any, .any, .any, .any, .any, .any, .any, .any, .any, .any, .any, .any, .any, .any, .any, .any, .any, .any, .any, .any, .any, .any, .any, .any, .any, .any, .any, .any, .any, .any, .any, .any, .any, .any, .any, .any], [.ex false [.c (.sc (.bool t57.1)), .c (.sc (.int .u64 t69.1)), .c (.sc (.int .i64 t69.2)), .c (.sc (.bool (z3 t57)))] 44, .ex false [.c (.sc (.bool t58.1)), .c (.sc (.int .u64 t58.2.1)), .c (.sc (.int .i64 (p2 t58))), .c (.sc (.bool (z3 t58)))] 44], 0⟩) (fun t69 => (.adj [] (.adj [.keep [5, 6, 7]] (.sub (Int × Int) (fun _ => (.exit 2)) (fun t81 => ⟨[.any, .any, .any, .any, .any, .v (.one (.sc (.bool (!(t1 == t2))))), .v (.one (.ptr 0 ⟨0, 0, 0, 0⟩)), .v (.one (.ptr 1 ⟨0, 0, 0, 0⟩)), .any, .any, .any, .any, .any, .any, .any, .any, .any, .any, .any, .any, .any, .any, .any, .any, .any, .any, .any, .any, .any, .any, .any, .any, .any, .any, .any, .any, .any, .any, .any, .any, .any, .any, .any, .any, .any, .any, .any, .any, .any, .any, .any, .any, .any, .any, .any, .any, .any, .any, .any, .any, .any, .any, .any, .any, .any, .any, .any, .any, .any, .any, .any, .any, .any, .any, .any, .any, .any, .any, .any, .any, .any, .any, .any, .any, .any, .any, .any, .any, .any, .any, .any, .any, .any, .any, .any, .any, .any, .any, .any, .any, .any, .any, .any, .any, .any, .any, .any, .any, .any], [.ex false [.c (.sc (.bool t57.1)), .c (.sc (.int .u64 t69.1)), .c (.sc (.int .i64 t69.2)), .c (.sc (.bool (z3 t57)))] 44, .ex false [.c (.sc (.bool t58.1)), .c (.sc (.int .u64 t81.1)), .c (.sc (.int .i64 t81.2)), .c (.sc (.bool (z3 t58)))] 44], 0⟩) (fun t81 => (.call true [] (Int × Int) (fun t87 => halterref02_Product.R t87) (fun t87 => (.call true [] (Int) (fun t88 => halterref02_Round.R t88) (fun t88 => (.adj [] (.adj [.drop 0] .nil))))))))))))))))))))))))))))))))))))))))))))))))))))) (.one false (.one false (.one false (.one false (.one false (.one false (.one false (.call true [] (Int) (fun t89 => halterref02_Class.R t89) (fun t89 => (.one false (.one false (.br (.one true (.call true [] (Int) (fun t91 => halterref02_Class.R t91) (fun t91 => (.one true (.one false (.one true (.one false (.br (.adj [] (.adj [] (.adj [] .nil))) (.call true [] (Int) (fun t93 => halterref02_Class.R t93) (fun t93 => (.br (.one true (.one true (.one true (.one true (.call true [] (Int) (fun t95 => halterref02_signed.R t95) (fun t95 => (.adj [] (.adj [] .nil)))))))) (.one false (.call true [] (Int) (fun t96 => halterref02_Class.R t96) (fun t96 => (.one false (.one false (.br (.call true [] (Int) (fun t98 => halterref02_signed.R t98) (fun t98 => (.adj [] (.adj [] .nil)))) (.call true [] (Bool × Int × Int × Bool) (fun t99 => halterref02_Open.R t99) (fun t99 => (.call true [] (Bool × Int × Int × Bool) (fun t100 => halterref02_Open.R t100) (fun t100 => (.br (.one true (.one true (.one true (.one true (.call true [] (Int) (fun t102 => halterref02_signed.R t102) (fun t102 => (.adj [] (.adj [.drop 0] .nil)))))))) (.one false (.one false (.one false (.br (.call true [] (Int) (fun t104 => halterref02_signed.R t104) (fun t104 => (.adj [] (.adj [.drop 0] .nil)))) (.adj [] (.adj [] (.adj [.keep [5, 6, 7]] (.sub (Int × Int) (fun _ => (.exit 0)) (fun t111 => ⟨[.any, .any, .any, .any, .any, .v (.one (.sc (.bool (!(t1 == t2))))), .v (.one (.ptr 0 ⟨0, 0, 0, 0⟩)), .v (.one (.ptr 1 ⟨0, 0, 0, 0⟩)), .any, .any, .any, .any, .any, .any, .any, .any, .any, .any, .any, .any, .any, .any, .any, .any, .any, .any, .any, .any, .any, .any, .any, .any, .any, .any, .any, .any, .any, .any, .any, .any, .any, .any, .any, .any, .any, .any, .any, .any, .any, .any, .any, .any, .any, .any, .any, .any, .any, .any, .any, .any, .any, .any, .any, .any, .any, .any, .any, .any, .any, .any, .any, .any, .any, .any, .any, .any, .any, .any, .any, .any, .any, .any, .any, .any, .any, .any, .any, .any, .any, .any, .any, .any, .any, .any, .any, .any, .any, .any, .any, .any, .any, .any, .any, .any, .any, .any, .any, .any, .any], [.ex false [.c (.sc (.bool t99.1)), .c (.sc (.int .u64 t111.1)), .c (.sc (.int .i64 t111.2)), .c (.sc (.bool (z3 t99)))] 44, .ex false [.c (.sc (.bool t100.1)), .c (.sc (.int .u64 t100.2.1)), .c (.sc (.int .i64 (p2 t100))), .c (.sc (.bool (z3 t100)))] 44], 0⟩) (fun t111 => (.adj [] (.adj [.keep [5, 6, 7]] (.sub (Int × Int) (fun _ => (.exit 2)) (fun t123 => ⟨[.any, .any, .any, .any, .any, .v (.one (.sc (.bool (!(t1 == t2))))), .v (.one (.ptr 0 ⟨0, 0, 0, 0⟩)), .v (.one (.ptr 1 ⟨0, 0, 0, 0⟩)), .any, .any, .any, .any, .any, .any, .any, .any, .any, .any, .any, .any, .any, .any, .any, .any, .any, .any, .any, .any, .any, .any, .any, .any, .any, .any, .any, .any, .any, .any, .any, .any, .any, .any, .any, .any, .any, .any, .any, .any, .any, .any, .any, .any, .any, .any, .any, .any, .any, .any, .any, .any, .any, .any, .any, .any, .any, .any, .any, .any, .any, .any, .any, .any, .any, .any, .any, .any, .any, .any, .any, .any, .any, .any, .any, .any, .any, .any, .any, .any, .any, .any, .any, .any, .any, .any, .any, .any, .any, .any, .any, .any, .any, .any, .any, .any, .any, .any, .any, .any, .any], [.ex false [.c (.sc (.bool t99.1)), .c (.sc (.int .u64 t111.1)), .c (.sc (.int .i64 t111.2)), .c (.sc (.bool (z3 t99)))] 44, .ex false [.c (.sc (.bool t100.1)), .c (.sc (.int .u64 t123.1)), .c (.sc (.int .i64 t123.2)), .c (.sc (.bool (z3 t100)))] 44], 0⟩) (fun t123 => (.call true [] (Int × Int) (fun t129 => halterref02_Product.R t129) (fun t129 => (.call true [] (Int) (fun t130 => halterref02_Round.R t130) (fun t130 => (.adj [] (.adj [.drop 0] .nil))))))))))))))))))))))))))))))))))))))))) (.one false (.one false (.one false (.one false (.one false (.one false (.call true [] (Int) (fun t131 => halterref02_Class.R t131) (fun t131 => (.br (.one true (.one true (.one true (.one true (.call true [] (Int) (fun t133 => halterref02_signed.R t133) (fun t133 => (.adj [] (.adj [] .nil)))))))) (.one false (.call true [] (Int) (fun t134 => halterref02_Class.R t134) (fun t134 => (.one false (.one false (.br (.call true [] (Int) (fun t136 => halterref02_signed.R t136) (fun t136 => (.adj [] (.adj [] .nil)))) (.call true [] (Bool × Int × Int × Bool) (fun t137 => halterref02_Open.R t137) (fun t137 => (.call true [] (Bool × Int × Int × Bool) (fun t138 => halterref02_Open.R t138) (fun t138 => (.br (.one true (.one true (.one true (.one true (.call true [] (Int) (fun t140 => halterref02_signed.R t140) (fun t140 => (.adj [] (.adj [.drop 0] .nil)))))))) (.one false (.one false (.one false (.br (.call true [] (Int) (fun t142 => halterref02_signed.R t142) (fun t142 => (.adj [] (.adj [.drop 0] .nil)))) (.adj [] (.adj [] (.adj [.keep [5, 6, 7]] (.sub (Int × Int) (fun _ => (.exit 0)) (fun t149 => ⟨[.any, .any, .any, .any, .any, .v (.one (.sc (.bool (!(t1 == t2))))), .v (.one (.ptr 0 ⟨0, 0, 0, 0⟩)), .v (.one (.ptr 1 ⟨0, 0, 0, 0⟩)), .any, .any, .any, .any, .any, .any, .any, .any, .any, .any, .any, .any, .any, .any, .any, .any, .any, .any, .any, .any, .any, .any, .any, .any, .any, .any, .any, .any, .any, .any, .any, .any, .any, .any, .any, .any, .any, .any, .any, .any, .any, .any, .any, .any, .any, .any, .any, .any, .any, .any, .any, .any, .any, .any, .any, .any, .any, .any, .any, .any, .any, .any, .any, .any, .any, .any, .any, .any, .any, .any, .any, .any, .any, .any, .any, .any, .any, .any, .any, .any, .any, .any, .any, .any, .any, .any, .any, .any, .any, .any, .any, .any, .any, .any, .any, .any, .any, .any, .any, .any, .any], [.ex false [.c (.sc (.bool t137.1)), .c (.sc (.int .u64 t149.1)), .c (.sc (.int .i64 t149.2)), .c (.sc (.bool (z3 t137)))] 44, .ex false [.c (.sc (.bool t138.1)), .c (.sc (.int .u64 t138.2.1)), .c (.sc (.int .i64 (p2 t138))), .c (.sc (.bool (z3 t138)))] 44], 0⟩) (fun t149 => (.adj [] (.adj [.keep [5, 6, 7]] (.sub (Int × Int) (fun _ => (.exit 2)) (fun t161 => ⟨[.any, .any, .any, .any, .any, .v (.one (.sc (.bool (!(t1 == t2))))), .v (.one (.ptr 0 ⟨0, 0, 0, 0⟩)), .v (.one (.ptr 1 ⟨0, 0, 0, 0⟩)), .any, .any, .any, .any, .any, .any, .any, .any, .any, .any, .any, .any, .any, .any, .any, .any, .any, .any, .any, .any, .any, .any, .any, .any, .any, .any, .any, .any, .any, .any, .any, .any, .any, .any, .any, .any, .any, .any, .any, .any, .any, .any, .any, .any, .any, .any, .any, .any, .any, .any, .any, .any, .any, .any, .any, .any, .any, .any, .any, .any, .any, .any, .any, .any, .any, .any, .any, .any, .any, .any, .any, .any, .any, .any, .any, .any, .any, .any, .any, .any, .any, .any, .any, .any, .any, .any, .any, .any, .any, .any, .any, .any, .any, .any, .any, .any, .any, .any, .any, .any, .any], [.ex false [.c (.sc (.bool t137.1)), .c (.sc (.int .u64 t149.1)), .c (.sc (.int .i64 t149.2)), .c (.sc (.bool (z3 t137)))] 44, .ex false [.c (.sc (.bool t138.1)), .c (.sc (.int .u64 t161.1)), .c (.sc (.int .i64 t161.2)), .c (.sc (.bool (z3 t138)))] 44], 0⟩) (fun t161 => (.call true [] (Int × Int) (fun t167 => halterref02_Product.R t167) (fun t167 => (.call true [] (Int) (fun t168 => halterref02_Round.R t168) (fun t168 => (.adj [] (.adj [.drop 0] .nil))))))))))))))))))))))))))))))))))))))))))))))))))))))))))))))))) (to_goal (q := (∃ t1 : Bool, (Fun cfg 38 [.one (.sc (.int .u64 a0))] [] (halterref02_Neg.R t1) [] ∧ True) ∧ (∃ t2 : Bool, (Fun cfg 38 [.one (.sc (.int .u64 a1))] [] (halterref02_Neg.R t2) [] ∧ True) ∧ (True) ∧ (∃ t3 : Bool, (Fun cfg 39 [.one (.sc (.int .u64 a0)), .one (.sc (.int .u64 a1))] [] (halterref02_none.R t3) [] ∧ True) ∧ ((t3 = false → (t3 = false ∧ (∃ t5 : Int, (Fun cfg 21 [.one (.sc (.int .u64 a0))] [] (halterref02_Class.R t5) [] ∧ True) ∧ (t3 = false ∧ (True) ∧ (t3 = false ∧ (((t5 == (3 : Int)) = true → ((t5 == (3 : Int)) = true ∧ (∃ t7 : Int, (Fun cfg 21 [.one (.sc (.int .u64 a1))] [] (halterref02_Class.R t7) [] ∧ True) ∧ ((t5 == (3 : Int)) = true ∧ (True) ∧ (t3 = false ∧ ((t5 == (3 : Int)) = true ∧ (t3 = false ∧ (((t7 == (0 : Int)) = false → ((t7 == (0 : Int)) = false ∧ (∃ t9 : Int, (Fun cfg 21 [.one (.sc (.int .u64 a0))] [] (halterref02_Class.R t9) [] ∧ True) ∧ ((t7 == (0 : Int)) = false ∧ (True) ∧ ((t7 == (0 : Int)) = false ∧ (((t9 == (0 : Int)) = true → ((t9 == (0 : Int)) = true ∧ (∃ t11 : Int, (Fun cfg 21 [.one (.sc (.int .u64 a1))] [] (halterref02_Class.R t11) [] ∧ True) ∧ ((t9 == (0 : Int)) = true ∧ (True) ∧ ((t7 == (0 : Int)) = false ∧ ((t9 == (0 : Int)) = true ∧ ((t7 == (0 : Int)) = false ∧ (((t11 == (3 : Int)) = true → (True ∧ (True ∧ ((True) ∧ (True) ∧ (.v (.one (.sc (.int .u64 (9221120237041090560 : Int)))) : Tm) = halterref02_Mul.R r ∧ ([] : List Box) = [])))) ∧ ((t11 == (3 : Int)) = false → (∃ t13 : Int, (Fun cfg 21 [.one (.sc (.int .u64 a0))] [] (halterref02_Class.R t13) [] ∧ True) ∧ (True) ∧ (((t13 == (3 : Int)) = false → ((t13 == (3 : Int)) = false ∧ (∃ t16 : Int, (Fun cfg 21 [.one (.sc (.int .u64 a1))] [] (halterref02_Class.R t16) [] ∧ True) ∧ ((t13 == (3 : Int)) = false ∧ (True) ∧ ((t13 == (3 : Int)) = false ∧ (((t16 == (3 : Int)) = true → (∃ t18 : Int, (Fun cfg 40 [.one (.sc (.bool (!(t1 == t2)))), .one (.sc (.int .u64 (9218868437227405312 : Int)))] [] (halterref02_signed.R t18) [] ∧ True) ∧ (True ∧ ((True) ∧ (True) ∧ (.v (.one (.sc (.int .u64 t18))) : Tm) = halterref02_Mul.R r ∧ ([] : List Box) = [])))) ∧ ((t16 == (3 : Int)) = false → (∃ t19 : Bool × Int × Int × Bool, (Fun cfg 41 [.one (.sc (.int .u64 a0))] [] (halterref02_Open.R t19) [] ∧ True) ∧ (∃ t20 : Bool × Int × Int × Bool, (Fun cfg 41 [.one (.sc (.int .u64 a1))] [] (halterref02_Open.R t20) [] ∧ True) ∧ (True) ∧ (True) ∧ (True) ∧ (True) ∧ (((t19.2.1 == (0 : Int)) = false → ((t19.2.1 == (0 : Int)) = false ∧ (True) ∧ ((t19.2.1 == (0 : Int)) = false ∧ (True) ∧ ((t19.2.1 == (0 : Int)) = false ∧ (((t20.2.1 == (0 : Int)) = true → (∃ t24 : Int, (Fun cfg 40 [.one (.sc (.bool (!(t1 == t2)))), .one (.sc (.int .u64 (0 : Int)))] [] (halterref02_signed.R t24) [] ∧ True) ∧ (True ∧ ((True) ∧ ((True) ∧ True) ∧ (.v (.one (.sc (.int .u64 t24))) : Tm) = halterref02_Mul.R r ∧ ([] : List Box) = [])))) ∧ ((t20.2.1 == (0 : Int)) = false → (True ∧ (True ∧ (((True) ∧ True) ∧ (∃ t31 : Int × Int, Trip cfg (.loop (cpath (Try.f10.body.getD .skip) [1, 1, 1, 1, 1, 1, 0, 0, 0])) ⟨[.any, .any, .any, .any, .any, .v (.one (.sc (.bool (!(t1 == t2))))), .v (.one (.ptr 0 ⟨0, 0, 0, 0⟩)), .v (.one (.ptr 1 ⟨0, 0, 0, 0⟩)), .any, .any, .any, .any, .any, .any, .any, .any, .any, .any, .any, .any, .any, .any, .any, .any, .any, .any, .any, .any, .any, .any, .any, .any, .any, .any, .any, .any, .any, .any, .any, .any, .any, .any, .any, .any, .any, .any, .any, .any, .any, .any, .any, .any, .any, .any, .any, .any, .any, .any, .any, .any, .any, .any, .any, .any, .any, .any, .any, .any, .any, .any, .any, .any, .any, .any, .any, .any, .any, .any, .any, .any, .any, .any, .any, .any, .any, .any, .any, .any, .any, .any, .any, .any, .any, .any, .any, .any, .any, .any, .any, .any, .any, .any, .any, .any, .any, .any, .any, .any, .any], [.ex false [.c (.sc (.bool t19.1)), .c (.sc (.int .u64 t19.2.1)), .c (.sc (.int .i64 (p2 t19))), .c (.sc (.bool (z3 t19)))] 44, .ex false [.c (.sc (.bool t20.1)), .c (.sc (.int .u64 t20.2.1)), .c (.sc (.int .i64 (p2 t20))), .c (.sc (.bool (z3 t20)))] 44], 0⟩ (fun e s => e = (.exit 0) ∧ s = ⟨[.any, .any, .any, .any, .any, .v (.one (.sc (.bool (!(t1 == t2))))), .v (.one (.ptr 0 ⟨0, 0, 0, 0⟩)), .v (.one (.ptr 1 ⟨0, 0, 0, 0⟩)), .any, .any, .any, .any, .any, .any, .any, .any, .any, .any, .any, .any, .any, .any, .any, .any, .any, .any, .any, .any, .any, .any, .any, .any, .any, .any, .any, .any, .any, .any, .any, .any, .any, .any, .any, .any, .any, .any, .any, .any, .any, .any, .any, .any, .any, .any, .any, .any, .any, .any, .any, .any, .any, .any, .any, .any, .any, .any, .any, .any, .any, .any, .any, .any, .any, .any, .any, .any, .any, .any, .any, .any, .any, .any, .any, .any, .any, .any, .any, .any, .any, .any, .any, .any, .any, .any, .any, .any, .any, .any, .any, .any, .any, .any, .any, .any, .any, .any, .any, .any, .any], [.ex false [.c (.sc (.bool t19.1)), .c (.sc (.int .u64 t31.1)), .c (.sc (.int .i64 t31.2)), .c (.sc (.bool (z3 t19)))] 44, .ex false [.c (.sc (.bool t20.1)), .c (.sc (.int .u64 t20.2.1)), .c (.sc (.int .i64 (p2 t20))), .c (.sc (.bool (z3 t20)))] 44], 0⟩) ∧ (True ∧ (((True) ∧ True) ∧ (∃ t43 : Int × Int, Trip cfg (.loop (cpath (Try.f10.body.getD .skip) [1, 1, 1, 1, 1, 1, 1, 0, 0, 0])) ⟨[.any, .any, .any, .any, .any, .v (.one (.sc (.bool (!(t1 == t2))))), .v (.one (.ptr 0 ⟨0, 0, 0, 0⟩)), .v (.one (.ptr 1 ⟨0, 0, 0, 0⟩)), .any, .any, .any, .any, .any, .any, .any, .any, .any, .any, .any, .any, .any, .any, .any, .any, .any, .any, .any, .any, .any, .any, .any, .any, .any, .any, .any, .any, .any, .any, .any, .any, .any, .any, .any, .any, .any, .any, .any, .any, .any, .any, .any, .any, .any, .any, .any, .any, .any, .any, .any, .any, .any, .any, .any, .any, .any, .any, .any, .any, .any, .any, .any, .any, .any, .any, .any, .any, .any, .any, .any, .any, .any, .any, .any, .any, .any, .any, .any, .any, .any, .any, .any, .any, .any, .any, .any, .any, .any, .any, .any, .any, .any, .any, .any, .any, .any, .any, .any, .any, .any], [.ex false [.c (.sc (.bool t19.1)), .c (.sc (.int .u64 t31.1)), .c (.sc (.int .i64 t31.2)), .c (.sc (.bool (z3 t19)))] 44, .ex false [.c (.sc (.bool t20.1)), .c (.sc (.int .u64 t20.2.1)), .c (.sc (.int .i64 (p2 t20))), .c (.sc (.bool (z3 t20)))] 44], 0⟩ (fun e s => e = (.exit 2) ∧ s = ⟨[.any, .any, .any, .any, .any, .v (.one (.sc (.bool (!(t1 == t2))))), .v (.one (.ptr 0 ⟨0, 0, 0, 0⟩)), .v (.one (.ptr 1 ⟨0, 0, 0, 0⟩)), .any, .any, .any, .any, .any, .any, .any, .any, .any, .any, .any, .any, .any, .any, .any, .any, .any, .any, .any, .any, .any, .any, .any, .any, .any, .any, .any, .any, .any, .any, .any, .any, .any, .any, .any, .any, .any, .any, .any, .any, .any, .any, .any, .any, .any, .any, .any, .any, .any, .any, .any, .any, .any, .any, .any, .any, .any, .any, .any, .any, .any, .any, .any, .any, .any, .any, .any, .any, .any, .any, .any, .any, .any, .any, .any, .any, .any, .any, .any, .any, .any, .any, .any, .any, .any, .any, .any, .any, .any, .any, .any, .any, .any, .any, .any, .any, .any, .any, .any, .any, .any], [.ex false [.c (.sc (.bool t19.1)), .c (.sc (.int .u64 t31.1)), .c (.sc (.int .i64 t31.2)), .c (.sc (.bool (z3 t19)))] 44, .ex false [.c (.sc (.bool t20.1)), .c (.sc (.int .u64 t43.1)), .c (.sc (.int .i64 t43.2)), .c (.sc (.bool (z3 t20)))] 44], 0⟩) ∧ (True) ∧ (True) ∧ (∃ t49 : Int × Int, (Fun cfg 42 [.one (.sc (.int .u64 t31.1)), .one (.sc (.int .u64 t43.1))] [] (halterref02_Product.R t49) [] ∧ True) ∧ (True) ∧ ((70368744177664 : Int) ≠ 0) ∧ (True) ∧ (True) ∧ (True) ∧ (True) ∧ (True) ∧ ((70368744177664 : Int) ≠ 0) ∧ (True) ∧ (∃ t50 : Int, (Fun cfg 43 [.agg [.c (.sc (.bool (!(t1 == t2)))), .c (.sc (.int .u64 (IntKind.wrap .u64 ((IntKind.wrap .u64 ((256 : Int) * t49.1)) + (IntKind.wrap .u64 (Int.tdiv t49.2 (70368744177664 : Int))))))), .c (.sc (.int .i64 (IntKind.wrap .i64 ((IntKind.wrap .i64 (t31.2 + t43.2)) + (46 : Int))))), .c (.sc (.bool (decide ((Int.tmod t49.2 (70368744177664 : Int)) > (0 : Int)))))]] [] (halterref02_Round.R t50) [] ∧ True) ∧ (True ∧ ((True) ∧ ((True) ∧ True) ∧ (.v (.one (.sc (.int .u64 t50))) : Tm) = halterref02_Mul.R r ∧ ([] : List Box) = []))))))))))))))))) ∧ ((t19.2.1 == (0 : Int)) = true → ((t19.2.1 == (0 : Int)) = true ∧ ((t19.2.1 == (0 : Int)) = true ∧ ((t19.2.1 == (0 : Int)) = true ∧ (true = true ∧ (∃ t22 : Int, (Fun cfg 40 [.one (.sc (.bool (!(t1 == t2)))), .one (.sc (.int .u64 (0 : Int)))] [] (halterref02_signed.R t22) [] ∧ True) ∧ (True ∧ ((True) ∧ ((True) ∧ True) ∧ (.v (.one (.sc (.int .u64 t22))) : Tm) = halterref02_Mul.R r ∧ ([] : List Box) = [])))))))))))))))))) ∧ ((t13 == (3 : Int)) = true → ((t13 == (3 : Int)) = true ∧ ((t13 == (3 : Int)) = true ∧ ((t13 == (3 : Int)) = true ∧ (true = true ∧ (∃ t15 : Int, (Fun cfg 40 [.one (.sc (.bool (!(t1 == t2)))), .one (.sc (.int .u64 (9218868437227405312 : Int)))] [] (halterref02_signed.R t15) [] ∧ True) ∧ (True ∧ ((True) ∧ (True) ∧ (.v (.one (.sc (.int .u64 t15))) : Tm) = halterref02_Mul.R r ∧ ([] : List Box) = []))))))))))))))))))) ∧ ((t9 == (0 : Int)) = false → ((t9 == (0 : Int)) = false ∧ ((t9 == (0 : Int)) = false ∧ ((t7 == (0 : Int)) = false ∧ ((t9 == (0 : Int)) = false ∧ ((t7 == (0 : Int)) = false ∧ (false = false ∧ (∃ t51 : Int, (Fun cfg 21 [.one (.sc (.int .u64 a0))] [] (halterref02_Class.R t51) [] ∧ True) ∧ (True) ∧ (((t51 == (3 : Int)) = false → ((t51 == (3 : Int)) = false ∧ (∃ t54 : Int, (Fun cfg 21 [.one (.sc (.int .u64 a1))] [] (halterref02_Class.R t54) [] ∧ True) ∧ ((t51 == (3 : Int)) = false ∧ (True) ∧ ((t51 == (3 : Int)) = false ∧ (((t54 == (3 : Int)) = true → (∃ t56 : Int, (Fun cfg 40 [.one (.sc (.bool (!(t1 == t2)))), .one (.sc (.int .u64 (9218868437227405312 : Int)))] [] (halterref02_signed.R t56) [] ∧ True) ∧ (True ∧ ((True) ∧ (True) ∧ (.v (.one (.sc (.int .u64 t56))) : Tm) = halterref02_Mul.R r ∧ ([] : List Box) = [])))) ∧ ((t54 == (3 : Int)) = false → (∃ t57 : Bool × Int × Int × Bool, (Fun cfg 41 [.one (.sc (.int .u64 a0))] [] (halterref02_Open.R t57) [] ∧ True) ∧ (∃ t58 : Bool × Int × Int × Bool, (Fun cfg 41 [.one (.sc (.int .u64 a1))] [] (halterref02_Open.R t58) [] ∧ True) ∧ (True) ∧ (True) ∧ (True) ∧ (True) ∧ (((t57.2.1 == (0 : Int)) = false → ((t57.2.1 == (0 : Int)) = false ∧ (True) ∧ ((t57.2.1 == (0 : Int)) = false ∧ (True) ∧ ((t57.2.1 == (0 : Int)) = false ∧ (((t58.2.1 == (0 : Int)) = true → (∃ t62 : Int, (Fun cfg 40 [.one (.sc (.bool (!(t1 == t2)))), .one (.sc (.int .u64 (0 : Int)))] [] (halterref02_signed.R t62) [] ∧ True) ∧ (True ∧ ((True) ∧ ((True) ∧ True) ∧ (.v (.one (.sc (.int .u64 t62))) : Tm) = halterref02_Mul.R r ∧ ([] : List Box) = [])))) ∧ ((t58.2.1 == (0 : Int)) = false → (True ∧ (True ∧ (((True) ∧ True) ∧ (∃ t69 : Int × Int, Trip cfg (.loop (cpath (Try.f10.body.getD .skip) [1, 1, 1, 1, 1, 1, 0, 0, 0])) ⟨[.any, .any, .any, .any, .any, .v (.one (.sc (.bool (!(t1 == t2))))), .v (.one (.ptr 0 ⟨0, 0, 0, 0⟩)), .v (.one (.ptr 1 ⟨0, 0, 0, 0⟩)), .any, .any, .any, .any, .any, .any, .any, .any, .any, .any, .any, .any, .any, .any, .any, .any, .any, .any, .any, .any, .any, .any, .any, .any, .any, .any, .any, .any, .any, .any, .any, .any, .any, .any, .any, .any, .any, .any, .any, .any, .any, .any, .any, .any, .any, .any, .any, .any, .any, .any, .any, .any, .any, .any, .any, .any, .any, .any, .any, .any, .any, .any, .any, .any, .any, .any, .any, .any, .any, .any, .any, .any, .any, .any, .any, .any, .any, .any, .any, .any, .any, .any, .any, .any, .any, .any, .any, .any, .any, .any, .any, .any, .any, .any, .any, .any, .any, .any, .any, .any, .any], [.ex false [.c (.sc (.bool t57.1)), .c (.sc (.int .u64 t57.2.1)), .c (.sc (.int .i64 (p2 t57))), .c (.sc (.bool (z3 t57)))] 44, .ex false [.c (.sc (.bool t58.1)), .c (.sc (.int .u64 t58.2.1)), .c (.sc (.int .i64 (p2 t58))), .c (.sc (.bool (z3 t58)))] 44], 0⟩ (fun e s => e = (.exit 0) ∧ s = ⟨[.any, .any, .any, .any, .any, .v (.one (.sc (.bool (!(t1 == t2))))), .v (.one (.ptr 0 ⟨0, 0, 0, 0⟩)), .v (.one (.ptr 1 ⟨0, 0, 0, 0⟩)), .any, .any, .any, .any, .any, .any, .any, .any, .any, .any, .any, .any, .any, .any, .any, .any, .any, .any, .any, .any, .any, .any, .any, .any, .any, .any, .any, .any, .any, .any, .any, .any, .any, .any, .any, .any, .any, .any, .any, .any, .any, .any, .any, .any, .any, .any, .any, .any, .any, .any, .any, .any, .any, .any, .any, .any, .any, .any, .any, .any, .any, .any, .any, .any, .any, .any, .any, .any, .any, .any, .any, .any, .any, .any, .any, .any, .any, .any, .any, .any, .any, .any, .any, .any, .any, .any, .any, .any, .any, .any, .any, .any, .any, .any, .any, .any, .any, .any, .any, .any, .any], [.ex false [.c (.sc (.bool t57.1)), .c (.sc (.int .u64 t69.1)), .c (.sc (.int .i64 t69.2)), .c (.sc (.bool (z3 t57)))] 44, .ex false [.c (.sc (.bool t58.1)), .c (.sc (.int .u64 t58.2.1)), .c (.sc (.int .i64 (p2 t58))), .c (.sc (.bool (z3 t58)))] 44], 0⟩) ∧ (True ∧ (((True) ∧ True) ∧ (∃ t81 : Int × Int, Trip cfg (.loop (cpath (Try.f10.body.getD .skip) [1, 1, 1, 1, 1, 1, 1, 0, 0, 0])) ⟨[.any, .any, .any, .any, .any, .v (.one (.sc (.bool (!(t1 == t2))))), .v (.one (.ptr 0 ⟨0, 0, 0, 0⟩)), .v (.one (.ptr 1 ⟨0, 0, 0, 0⟩)), .any, .any, .any, .any, .any, .any, .any, .any, .any, .any, .any, .any, .any, .any, .any, .any, .any, .any, .any, .any, .any, .any, .any, .any, .any, .any, .any, .any, .any, .any, .any, .any, .any, .any, .any, .any, .any, .any, .any, .any, .any, .any, .any, .any, .any, .any, .any, .any, .any, .any, .any, .any, .any, .any, .any, .any, .any, .any, .any, .any, .any, .any, .any, .any, .any, .any, .any, .any, .any, .any, .any, .any, .any, .any, .any, .any, .any, .any, .any, .any, .any, .any, .any, .any, .any, .any, .any, .any, .any, .any, .any, .any, .any, .any, .any, .any, .any, .any, .any, .any, .any], [.ex false [.c (.sc (.bool t57.1)), .c (.sc (.int .u64 t69.1)), .c (.sc (.int .i64 t69.2)), .c (.sc (.bool (z3 t57)))] 44, .ex false [.c (.sc (.bool t58.1)), .c (.sc (.int .u64 t58.2.1)), .c (.sc (.int .i64 (p2 t58))), .c (.sc (.bool (z3 t58)))] 44], 0⟩ (fun e s => e = (.exit 2) ∧ s = ⟨[.any, .any, .any, .any, .any, .v (.one (.sc (.bool (!(t1 == t2))))), .v (.one (.ptr 0 ⟨0, 0, 0, 0⟩)), .v (.one (.ptr 1 ⟨0, 0, 0, 0⟩)), .any, .any, .any, .any, .any, .any, .any, .any, .any, .any, .any, .any, .any, .any, .any, .any, .any, .any, .any, .any, .any, .any, .any, .any, .any, .any, .any, .any, .any, .any, .any, .any, .any, .any, .any, .any, .any, .any, .any, .any, .any, .any, .any, .any, .any, .any, .any, .any, .any, .any, .any, .any, .any, .any, .any, .any, .any, .any, .any, .any, .any, .any, .any, .any, .any, .any, .any, .any, .any, .any, .any, .any, .any, .any, .any, .any, .any, .any, .any, .any, .any, .any, .any, .any, .any, .any, .any, .any, .any, .any, .any, .any, .any, .any, .any, .any, .any, .any, .any, .any, .any], [.ex false [.c (.sc (.bool t57.1)), .c (.sc (.int .u64 t69.1)), .c (.sc (.int .i64 t69.2)), .c (.sc (.bool (z3 t57)))] 44, .ex false [.c (.sc (.bool t58.1)), .c (.sc (.int .u64 t81.1)), .c (.sc (.int .i64 t81.2)), .c (.sc (.bool (z3 t58)))] 44], 0⟩) ∧ (True) ∧ (True) ∧ (∃ t87 : Int × Int, (Fun cfg 42 [.one (.sc (.int .u64 t69.1)), .one (.sc (.int .u64 t81.1))] [] (halterref02_Product.R t87) [] ∧ True) ∧ (True) ∧ ((70368744177664 : Int) ≠ 0) ∧ (True) ∧ (True) ∧ (True) ∧ (True) ∧ (True) ∧ ((70368744177664 : Int) ≠ 0) ∧ (True) ∧ (∃ t88 : Int, (Fun cfg 43 [.agg [.c (.sc (.bool (!(t1 == t2)))), .c (.sc (.int .u64 (IntKind.wrap .u64 ((IntKind.wrap .u64 ((256 : Int) * t87.1)) + (IntKind.wrap .u64 (Int.tdiv t87.2 (70368744177664 : Int))))))), .c (.sc (.int .i64 (IntKind.wrap .i64 ((IntKind.wrap .i64 (t69.2 + t81.2)) + (46 : Int))))), .c (.sc (.bool (decide ((Int.tmod t87.2 (70368744177664 : Int)) > (0 : Int)))))]] [] (halterref02_Round.R t88) [] ∧ True) ∧ (True ∧ ((True) ∧ ((True) ∧ True) ∧ (.v (.one (.sc (.int .u64 t88))) : Tm) = halterref02_Mul.R r ∧ ([] : List Box) = []))))))))))))))))) ∧ ((t57.2.1 == (0 : Int)) = true → ((t57.2.1 == (0 : Int)) = true ∧ ((t57.2.1 == (0 : Int)) = true ∧ ((t57.2.1 == (0 : Int)) = true ∧ (true = true ∧ (∃ t60 : Int, (Fun cfg 40 [.one (.sc (.bool (!(t1 == t2)))), .one (.sc (.int .u64 (0 : Int)))] [] (halterref02_signed.R t60) [] ∧ True) ∧ (True ∧ ((True) ∧ ((True) ∧ True) ∧ (.v (.one (.sc (.int .u64 t60))) : Tm) = halterref02_Mul.R r ∧ ([] : List Box) = [])))))))))))))))))) ∧ ((t51 == (3 : Int)) = true → ((t51 == (3 : Int)) = true ∧ ((t51 == (3 : Int)) = true ∧ ((t51 == (3 : Int)) = true ∧ (true = true ∧ (∃ t53 : Int, (Fun cfg 40 [.one (.sc (.bool (!(t1 == t2)))), .one (.sc (.int .u64 (9218868437227405312 : Int)))] [] (halterref02_signed.R t53) [] ∧ True) ∧ (True ∧ ((True) ∧ (True) ∧ (.v (.one (.sc (.int .u64 t53))) : Tm) = halterref02_Mul.R r ∧ ([] : List Box) = []))))))))))))))))))))))) ∧ ((t7 == (0 : Int)) = true → ((t7 == (0 : Int)) = true ∧ ((t7 == (0 : Int)) = true ∧ ((t7 == (0 : Int)) = true ∧ ((t7 == (0 : Int)) = true ∧ ((t7 == (0 : Int)) = true ∧ (true = true ∧ (True ∧ (True ∧ ((True) ∧ (True) ∧ (.v (.one (.sc (.int .u64 (9221120237041090560 : Int)))) : Tm) = halterref02_Mul.R r ∧ ([] : List Box) = [])))))))))))))))))) ∧ ((t5 == (3 : Int)) = false → ((t5 == (3 : Int)) = false ∧ ((t5 == (3 : Int)) = false ∧ (t3 = false ∧ ((t5 == (3 : Int)) = false ∧ (t3 = false ∧ (false = false ∧ (false = false ∧ (∃ t89 : Int, (Fun cfg 21 [.one (.sc (.int .u64 a0))] [] (halterref02_Class.R t89) [] ∧ True) ∧ (false = false ∧ (True) ∧ (false = false ∧ (((t89 == (0 : Int)) = true → ((t89 == (0 : Int)) = true ∧ (∃ t91 : Int, (Fun cfg 21 [.one (.sc (.int .u64 a1))] [] (halterref02_Class.R t91) [] ∧ True) ∧ ((t89 == (0 : Int)) = true ∧ (True) ∧ (false = false ∧ ((t89 == (0 : Int)) = true ∧ (false = false ∧ (((t91 == (3 : Int)) = true → (True ∧ (True ∧ ((True) ∧ (True) ∧ (.v (.one (.sc (.int .u64 (9221120237041090560 : Int)))) : Tm) = halterref02_Mul.R r ∧ ([] : List Box) = [])))) ∧ ((t91 == (3 : Int)) = false → (∃ t93 : Int, (Fun cfg 21 [.one (.sc (.int .u64 a0))] [] (halterref02_Class.R t93) [] ∧ True) ∧ (True) ∧ (((t93 == (3 : Int)) = false → ((t93 == (3 : Int)) = false ∧ (∃ t96 : Int, (Fun cfg 21 [.one (.sc (.int .u64 a1))] [] (halterref02_Class.R t96) [] ∧ True) ∧ ((t93 == (3 : Int)) = false ∧ (True) ∧ ((t93 == (3 : Int)) = false ∧ (((t96 == (3 : Int)) = true → (∃ t98 : Int, (Fun cfg 40 [.one (.sc (.bool (!(t1 == t2)))), .one (.sc (.int .u64 (9218868437227405312 : Int)))] [] (halterref02_signed.R t98) [] ∧ True) ∧ (True ∧ ((True) ∧ (True) ∧ (.v (.one (.sc (.int .u64 t98))) : Tm) = halterref02_Mul.R r ∧ ([] : List Box) = [])))) ∧ ((t96 == (3 : Int)) = false → (∃ t99 : Bool × Int × Int × Bool, (Fun cfg 41 [.one (.sc (.int .u64 a0))] [] (halterref02_Open.R t99) [] ∧ True) ∧ (∃ t100 : Bool × Int × Int × Bool, (Fun cfg 41 [.one (.sc (.int .u64 a1))] [] (halterref02_Open.R t100) [] ∧ True) ∧ (True) ∧ (True) ∧ (True) ∧ (True) ∧ (((t99.2.1 == (0 : Int)) = false → ((t99.2.1 == (0 : Int)) = false ∧ (True) ∧ ((t99.2.1 == (0 : Int)) = false ∧ (True) ∧ ((t99.2.1 == (0 : Int)) = false ∧ (((t100.2.1 == (0 : Int)) = true → (∃ t104 : Int, (Fun cfg 40 [.one (.sc (.bool (!(t1 == t2)))), .one (.sc (.int .u64 (0 : Int)))] [] (halterref02_signed.R t104) [] ∧ True) ∧ (True ∧ ((True) ∧ ((True) ∧ True) ∧ (.v (.one (.sc (.int .u64 t104))) : Tm) = halterref02_Mul.R r ∧ ([] : List Box) = [])))) ∧ ((t100.2.1 == (0 : Int)) = false → (True ∧ (True ∧ (((True) ∧ True) ∧ (∃ t111 : Int × Int, Trip cfg (.loop (cpath (Try.f10.body.getD .skip) [1, 1, 1, 1, 1, 1, 0, 0, 0])) ⟨[.any, .any, .any, .any, .any, .v (.one (.sc (.bool (!(t1 == t2))))), .v (.one (.ptr 0 ⟨0, 0, 0, 0⟩)), .v (.one (.ptr 1 ⟨0, 0, 0, 0⟩)), .any, .any, .any, .any, .any, .any, .any, .any, .any, .any, .any, .any, .any, .any, .any, .any, .any, .any, .any, .any, .any, .any, .any, .any, .any, .any, .any, .any, .any, .any, .any, .any, .any, .any, .any, .any, .any, .any, .any, .any, .any, .any, .any, .any, .any, .any, .any, .any, .any, .any, .any, .any, .any, .any, .any, .any, .any, .any, .any, .any, .any, .any, .any, .any, .any, .any, .any, .any, .any, .any, .any, .any, .any, .any, .any, .any, .any, .any, .any, .any, .any, .any, .any, .any, .any, .any, .any, .any, .any, .any, .any, .any, .any, .any, .any, .any, .any, .any, .any, .any, .any], [.ex false [.c (.sc (.bool t99.1)), .c (.sc (.int .u64 t99.2.1)), .c (.sc (.int .i64 (p2 t99))), .c (.sc (.bool (z3 t99)))] 44, .ex false [.c (.sc (.bool t100.1)), .c (.sc (.int .u64 t100.2.1)), .c (.sc (.int .i64 (p2 t100))), .c (.sc (.bool (z3 t100)))] 44], 0⟩ (fun e s => e = (.exit 0) ∧ s = ⟨[.any, .any, .any, .any, .any, .v (.one (.sc (.bool (!(t1 == t2))))), .v (.one (.ptr 0 ⟨0, 0, 0, 0⟩)), .v (.one (.ptr 1 ⟨0, 0, 0, 0⟩)), .any, .any, .any, .any, .any, .any, .any, .any, .any, .any, .any, .any, .any, .any, .any, .any, .any, .any, .any, .any, .any, .any, .any, .any, .any, .any, .any, .any, .any, .any, .any, .any, .any, .any, .any, .any, .any, .any, .any, .any, .any, .any, .any, .any, .any, .any, .any, .any, .any, .any, .any, .any, .any, .any, .any, .any, .any, .any, .any, .any, .any, .any, .any, .any, .any, .any, .any, .any, .any, .any, .any, .any, .any, .any, .any, .any, .any, .any, .any, .any, .any, .any, .any, .any, .any, .any, .any, .any, .any, .any, .any, .any, .any, .any, .any, .any, .any, .any, .any, .any, .any], [.ex false [.c (.sc (.bool t99.1)), .c (.sc (.int .u64 t111.1)), .c (.sc (.int .i64 t111.2)), .c (.sc (.bool (z3 t99)))] 44, .ex false [.c (.sc (.bool t100.1)), .c (.sc (.int .u64 t100.2.1)), .c (.sc (.int .i64 (p2 t100))), .c (.sc (.bool (z3 t100)))] 44], 0⟩) ∧ (True ∧ (((True) ∧ True) ∧ (∃ t123 : Int × Int, Trip cfg (.loop (cpath (Try.f10.body.getD .skip) [1, 1, 1, 1, 1, 1, 1, 0, 0, 0])) ⟨[.any, .any, .any, .any, .any, .v (.one (.sc (.bool (!(t1 == t2))))), .v (.one (.ptr 0 ⟨0, 0, 0, 0⟩)), .v (.one (.ptr 1 ⟨0, 0, 0, 0⟩)), .any, .any, .any, .any, .any, .any, .any, .any, .any, .any, .any, .any, .any, .any, .any, .any, .any, .any, .any, .any, .any, .any, .any, .any, .any, .any, .any, .any, .any, .any, .any, .any, .any, .any, .any, .any, .any, .any, .any, .any, .any, .any, .any, .any, .any, .any, .any, .any, .any, .any, .any, .any, .any, .any, .any, .any, .any, .any, .any, .any, .any, .any, .any, .any, .any, .any, .any, .any, .any, .any, .any, .any, .any, .any, .any, .any, .any, .any, .any, .any, .any, .any, .any, .any, .any, .any, .any, .any, .any, .any, .any, .any, .any, .any, .any, .any, .any, .any, .any, .any, .any], [.ex false [.c (.sc (.bool t99.1)), .c (.sc (.int .u64 t111.1)), .c (.sc (.int .i64 t111.2)), .c (.sc (.bool (z3 t99)))] 44, .ex false [.c (.sc (.bool t100.1)), .c (.sc (.int .u64 t100.2.1)), .c (.sc (.int .i64 (p2 t100))), .c (.sc (.bool (z3 t100)))] 44], 0⟩ (fun e s => e = (.exit 2) ∧ s = ⟨[.any, .any, .any, .any, .any, .v (.one (.sc (.bool (!(t1 == t2))))), .v (.one (.ptr 0 ⟨0, 0, 0, 0⟩)), .v (.one (.ptr 1 ⟨0, 0, 0, 0⟩)), .any, .any, .any, .any, .any, .any, .any, .any, .any, .any, .any, .any, .any, .any, .any, .any, .any, .any, .any, .any, .any, .any, .any, .any, .any, .any, .any, .any, .any, .any, .any, .any, .any, .any, .any, .any, .any, .any, .any, .any, .any, .any, .any, .any, .any, .any, .any, .any, .any, .any, .any, .any, .any, .any, .any, .any, .any, .any, .any, .any, .any, .any, .any, .any, .any, .any, .any, .any, .any, .any, .any, .any, .any, .any, .any, .any, .any, .any, .any, .any, .any, .any, .any, .any, .any, .any, .any, .any, .any, .any, .any, .any, .any, .any, .any, .any, .any, .any, .any, .any, .any], [.ex false [.c (.sc (.bool t99.1)), .c (.sc (.int .u64 t111.1)), .c (.sc (.int .i64 t111.2)), .c (.sc (.bool (z3 t99)))] 44, .ex false [.c (.sc (.bool t100.1)), .c (.sc (.int .u64 t123.1)), .c (.sc (.int .i64 t123.2)), .c (.sc (.bool (z3 t100)))] 44], 0⟩) ∧ (True) ∧ (True) ∧ (∃ t129 : Int × Int, (Fun cfg 42 [.one (.sc (.int .u64 t111.1)), .one (.sc (.int .u64 t123.1))] [] (halterref02_Product.R t129) [] ∧ True) ∧ (True) ∧ ((70368744177664 : Int) ≠ 0) ∧ (True) ∧ (True) ∧ (True) ∧ (True) ∧ (True) ∧ ((70368744177664 : Int) ≠ 0) ∧ (True) ∧ (∃ t130 : Int, (Fun cfg 43 [.agg [.c (.sc (.bool (!(t1 == t2)))), .c (.sc (.int .u64 (IntKind.wrap .u64 ((IntKind.wrap .u64 ((256 : Int) * t129.1)) + (IntKind.wrap .u64 (Int.tdiv t129.2 (70368744177664 : Int))))))), .c (.sc (.int .i64 (IntKind.wrap .i64 ((IntKind.wrap .i64 (t111.2 + t123.2)) + (46 : Int))))), .c (.sc (.bool (decide ((Int.tmod t129.2 (70368744177664 : Int)) > (0 : Int)))))]] [] (halterref02_Round.R t130) [] ∧ True) ∧ (True ∧ ((True) ∧ ((True) ∧ True) ∧ (.v (.one (.sc (.int .u64 t130))) : Tm) = halterref02_Mul.R r ∧ ([] : List Box) = []))))))))))))))))) ∧ ((t99.2.1 == (0 : Int)) = true → ((t99.2.1 == (0 : Int)) = true ∧ ((t99.2.1 == (0 : Int)) = true ∧ ((t99.2.1 == (0 : Int)) = true ∧ (true = true ∧ (∃ t102 : Int, (Fun cfg 40 [.one (.sc (.bool (!(t1 == t2)))), .one (.sc (.int .u64 (0 : Int)))] [] (halterref02_signed.R t102) [] ∧ True) ∧ (True ∧ ((True) ∧ ((True) ∧ True) ∧ (.v (.one (.sc (.int .u64 t102))) : Tm) = halterref02_Mul.R r ∧ ([] : List Box) = [])))))))))))))))))) ∧ ((t93 == (3 : Int)) = true → ((t93 == (3 : Int)) = true ∧ ((t93 == (3 : Int)) = true ∧ ((t93 == (3 : Int)) = true ∧ (true = true ∧ (∃ t95 : Int, (Fun cfg 40 [.one (.sc (.bool (!(t1 == t2)))), .one (.sc (.int .u64 (9218868437227405312 : Int)))] [] (halterref02_signed.R t95) [] ∧ True) ∧ (True ∧ ((True) ∧ (True) ∧ (.v (.one (.sc (.int .u64 t95))) : Tm) = halterref02_Mul.R r ∧ ([] : List Box) = []))))))))))))))))))) ∧ ((t89 == (0 : Int)) = false → ((t89 == (0 : Int)) = false ∧ ((t89 == (0 : Int)) = false ∧ (false = false ∧ ((t89 == (0 : Int)) = false ∧ (false = false ∧ (false = false ∧ (∃ t131 : Int, (Fun cfg 21 [.one (.sc (.int .u64 a0))] [] (halterref02_Class.R t131) [] ∧ True) ∧ (True) ∧ (((t131 == (3 : Int)) = false → ((t131 == (3 : Int)) = false ∧ (∃ t134 : Int, (Fun cfg 21 [.one (.sc (.int .u64 a1))] [] (halterref02_Class.R t134) [] ∧ True) ∧ ((t131 == (3 : Int)) = false ∧ (True) ∧ ((t131 == (3 : Int)) = false ∧ (((t134 == (3 : Int)) = true → (∃ t136 : Int, (Fun cfg 40 [.one (.sc (.bool (!(t1 == t2)))), .one (.sc (.int .u64 (9218868437227405312 : Int)))] [] (halterref02_signed.R t136) [] ∧ True) ∧ (True ∧ ((True) ∧ (True) ∧ (.v (.one (.sc (.int .u64 t136))) : Tm) = halterref02_Mul.R r ∧ ([] : List Box) = [])))) ∧ ((t134 == (3 : Int)) = false → (∃ t137 : Bool × Int × Int × Bool, (Fun cfg 41 [.one (.sc (.int .u64 a0))] [] (halterref02_Open.R t137) [] ∧ True) ∧ (∃ t138 : Bool × Int × Int × Bool, (Fun cfg 41 [.one (.sc (.int .u64 a1))] [] (halterref02_Open.R t138) [] ∧ True) ∧ (True) ∧ (True) ∧ (True) ∧ (True) ∧ (((t137.2.1 == (0 : Int)) = false → ((t137.2.1 == (0 : Int)) = false ∧ (True) ∧ ((t137.2.1 == (0 : Int)) = false ∧ (True) ∧ ((t137.2.1 == (0 : Int)) = false ∧ (((t138.2.1 == (0 : Int)) = true → (∃ t142 : Int, (Fun cfg 40 [.one (.sc (.bool (!(t1 == t2)))), .one (.sc (.int .u64 (0 : Int)))] [] (halterref02_signed.R t142) [] ∧ True) ∧ (True ∧ ((True) ∧ ((True) ∧ True) ∧ (.v (.one (.sc (.int .u64 t142))) : Tm) = halterref02_Mul.R r ∧ ([] : List Box) = [])))) ∧ ((t138.2.1 == (0 : Int)) = false → (True ∧ (True ∧ (((True) ∧ True) ∧ (∃ t149 : Int × Int, Trip cfg (.loop (cpath (Try.f10.body.getD .skip) [1, 1, 1, 1, 1, 1, 0, 0, 0])) ⟨[.any, .any, .any, .any, .any, .v (.one (.sc (.bool (!(t1 == t2))))), .v (.one (.ptr 0 ⟨0, 0, 0, 0⟩)), .v (.one (.ptr 1 ⟨0, 0, 0, 0⟩)), .any, .any, .any, .any, .any, .any, .any, .any, .any, .any, .any, .any, .any, .any, .any, .any, .any, .any, .any, .any, .any, .any, .any, .any, .any, .any, .any, .any, .any, .any, .any, .any, .any, .any, .any, .any, .any, .any, .any, .any, .any, .any, .any, .any, .any, .any, .any, .any, .any, .any, .any, .any, .any, .any, .any, .any, .any, .any, .any, .any, .any, .any, .any, .any, .any, .any, .any, .any, .any, .any, .any, .any, .any, .any, .any, .any, .any, .any, .any, .any, .any, .any, .any, .any, .any, .any, .any, .any, .any, .any, .any, .any, .any, .any, .any, .any, .any, .any, .any, .any, .any], [.ex false [.c (.sc (.bool t137.1)), .c (.sc (.int .u64 t137.2.1)), .c (.sc (.int .i64 (p2 t137))), .c (.sc (.bool (z3 t137)))] 44, .ex false [.c (.sc (.bool t138.1)), .c (.sc (.int .u64 t138.2.1)), .c (.sc (.int .i64 (p2 t138))), .c (.sc (.bool (z3 t138)))] 44], 0⟩ (fun e s => e = (.exit 0) ∧ s = ⟨[.any, .any, .any, .any, .any, .v (.one (.sc (.bool (!(t1 == t2))))), .v (.one (.ptr 0 ⟨0, 0, 0, 0⟩)), .v (.one (.ptr 1 ⟨0, 0, 0, 0⟩)), .any, .any, .any, .any, .any, .any, .any, .any, .any, .any, .any, .any, .any, .any, .any, .any, .any, .any, .any, .any, .any, .any, .any, .any, .any, .any, .any, .any, .any, .any, .any, .any, .any, .any, .any, .any, .any, .any, .any, .any, .any, .any, .any, .any, .any, .any, .any, .any, .any, .any, .any, .any, .any, .any, .any, .any, .any, .any, .any, .any, .any, .any, .any, .any, .any, .any, .any, .any, .any, .any, .any, .any, .any, .any, .any, .any, .any, .any, .any, .any, .any, .any, .any, .any, .any, .any, .any, .any, .any, .any, .any, .any, .any, .any, .any, .any, .any, .any, .any, .any, .any], [.ex false [.c (.sc (.bool t137.1)), .c (.sc (.int .u64 t149.1)), .c (.sc (.int .i64 t149.2)), .c (.sc (.bool (z3 t137)))] 44, .ex false [.c (.sc (.bool t138.1)), .c (.sc (.int .u64 t138.2.1)), .c (.sc (.int .i64 (p2 t138))), .c (.sc (.bool (z3 t138)))] 44], 0⟩) ∧ (True ∧ (((True) ∧ True) ∧ (∃ t161 : Int × Int, Trip cfg (.loop (cpath (Try.f10.body.getD .skip) [1, 1, 1, 1, 1, 1, 1, 0, 0, 0])) ⟨[.any, .any, .any, .any, .any, .v (.one (.sc (.bool (!(t1 == t2))))), .v (.one (.ptr 0 ⟨0, 0, 0, 0⟩)), .v (.one (.ptr 1 ⟨0, 0, 0, 0⟩)), .any, .any, .any, .any, .any, .any, .any, .any, .any, .any, .any, .any, .any, .any, .any, .any, .any, .any, .any, .any, .any, .any, .any, .any, .any, .any, .any, .any, .any, .any, .any, .any, .any, .any, .any, .any, .any, .any, .any, .any, .any, .any, .any, .any, .any, .any, .any, .any, .any, .any, .any, .any, .any, .any, .any, .any, .any, .any, .any, .any, .any, .any, .any, .any, .any, .any, .any, .any, .any, .any, .any, .any, .any, .any, .any, .any, .any, .any, .any, .any, .any, .any, .any, .any, .any, .any, .any, .any, .any, .any, .any, .any, .any, .any, .any, .any, .any, .any, .any, .any, .any], [.ex false [.c (.sc (.bool t137.1)), .c (.sc (.int .u64 t149.1)), .c (.sc (.int .i64 t149.2)), .c (.sc (.bool (z3 t137)))] 44, .ex false [.c (.sc (.bool t138.1)), .c (.sc (.int .u64 t138.2.1)), .c (.sc (.int .i64 (p2 t138))), .c (.sc (.bool (z3 t138)))] 44], 0⟩ (fun e s => e = (.exit 2) ∧ s = ⟨[.any, .any, .any, .any, .any, .v (.one (.sc (.bool (!(t1 == t2))))), .v (.one (.ptr 0 ⟨0, 0, 0, 0⟩)), .v (.one (.ptr 1 ⟨0, 0, 0, 0⟩)), .any, .any, .any, .any, .any, .any, .any, .any, .any, .any, .any, .any, .any, .any, .any, .any, .any, .any, .any, .any, .any, .any, .any, .any, .any, .any, .any, .any, .any, .any, .any, .any, .any, .any, .any, .any, .any, .any, .any, .any, .any, .any, .any, .any, .any, .any, .any, .any, .any, .any, .any, .any, .any, .any, .any, .any, .any, .any, .any, .any, .any, .any, .any, .any, .any, .any, .any, .any, .any, .any, .any, .any, .any, .any, .any, .any, .any, .any, .any, .any, .any, .any, .any, .any, .any, .any, .any, .any, .any, .any, .any, .any, .any, .any, .any, .any, .any, .any, .any, .any, .any], [.ex false [.c (.sc (.bool t137.1)), .c (.sc (.int .u64 t149.1)), .c (.sc (.int .i64 t149.2)), .c (.sc (.bool (z3 t137)))] 44, .ex false [.c (.sc (.bool t138.1)), .c (.sc (.int .u64 t161.1)), .c (.sc (.int .i64 t161.2)), .c (.sc (.bool (z3 t138)))] 44], 0⟩) ∧ (True) ∧ (True) ∧ (∃ t167 : Int × Int, (Fun cfg 42 [.one (.sc (.int .u64 t149.1)), .one (.sc (.int .u64 t161.1))] [] (halterref02_Product.R t167) [] ∧ True) ∧ (True) ∧ ((70368744177664 : Int) ≠ 0) ∧ (True) ∧ (True) ∧ (True) ∧ (True) ∧ (True) ∧ ((70368744177664 : Int) ≠ 0) ∧ (True) ∧ (∃ t168 : Int, (Fun cfg 43 [.agg [.c (.sc (.bool (!(t1 == t2)))), .c (.sc (.int .u64 (IntKind.wrap .u64 ((IntKind.wrap .u64 ((256 : Int) * t167.1)) + (IntKind.wrap .u64 (Int.tdiv t167.2 (70368744177664 : Int))))))), .c (.sc (.int .i64 (IntKind.wrap .i64 ((IntKind.wrap .i64 (t149.2 + t161.2)) + (46 : Int))))), .c (.sc (.bool (decide ((Int.tmod t167.2 (70368744177664 : Int)) > (0 : Int)))))]] [] (halterref02_Round.R t168) [] ∧ True) ∧ (True ∧ ((True) ∧ ((True) ∧ True) ∧ (.v (.one (.sc (.int .u64 t168))) : Tm) = halterref02_Mul.R r ∧ ([] : List Box) = []))))))))))))))))) ∧ ((t137.2.1 == (0 : Int)) = true → ((t137.2.1 == (0 : Int)) = true ∧ ((t137.2.1 == (0 : Int)) = true ∧ ((t137.2.1 == (0 : Int)) = true ∧ (true = true ∧ (∃ t140 : Int, (Fun cfg 40 [.one (.sc (.bool (!(t1 == t2)))), .one (.sc (.int .u64 (0 : Int)))] [] (halterref02_signed.R t140) [] ∧ True) ∧ (True ∧ ((True) ∧ ((True) ∧ True) ∧ (.v (.one (.sc (.int .u64 t140))) : Tm) = halterref02_Mul.R r ∧ ([] : List Box) = [])))))))))))))))))) ∧ ((t131 == (3 : Int)) = true → ((t131 == (3 : Int)) = true ∧ ((t131 == (3 : Int)) = true ∧ ((t131 == (3 : Int)) = true ∧ (true = true ∧ (∃ t133 : Int, (Fun cfg 40 [.one (.sc (.bool (!(t1 == t2)))), .one (.sc (.int .u64 (9218868437227405312 : Int)))] [] (halterref02_signed.R t133) [] ∧ True) ∧ (True ∧ ((True) ∧ (True) ∧ (.v (.one (.sc (.int .u64 t133))) : Tm) = halterref02_Mul.R r ∧ ([] : List Box) = []))))))))))))))))))))))))))))))))))) ∧ (t3 = true → (t3 = true ∧ (t3 = true ∧ (t3 = true ∧ (t3 = true ∧ (t3 = true ∧ (true = true ∧ (true = true ∧ (true = true ∧ (true = true ∧ (true = true ∧ (true = true ∧ (true = true ∧ (True ∧ (True ∧ ((True) ∧ (True) ∧ (.v (.one (.sc (.int .u64 (9221120237041090560 : Int)))) : Tm) = halterref02_Mul.R r ∧ ([] : List Box) = []))))))))))))))))))))) (by kernel_rfl) ?_)
  obtain ⟨t1, ht1, h⟩ := of_bind h
  refine ⟨t1, ⟨halterref02_Neg.fun_ ht1, trivial⟩, ?_⟩
  obtain ⟨t2, ht2, h⟩ := of_bind h
  refine ⟨t2, ⟨halterref02_Neg.fun_ ht2, trivial⟩, ?_⟩
  refine ⟨trivial, ?_⟩
  obtain ⟨t3, ht3, h⟩ := of_bind h
  refine ⟨t3, ⟨halterref02_none.fun_ ht3, trivial⟩, ?_⟩
  refine ⟨fun b4 => ?_, fun b4 => ?_⟩
  · rw [if_neg (ff b4)] at h
    refine ⟨b4, ?_⟩
    obtain ⟨t5, ht5, h⟩ := of_bind h
    refine ⟨t5, ⟨halterref02_Class.fun_ ht5, trivial⟩, ?_⟩
    refine ⟨b4, ?_⟩
    refine ⟨trivial, ?_⟩
    refine ⟨b4, ?_⟩
    refine ⟨fun b6 => ?_, fun b6 => ?_⟩
    · rw [if_pos (beq_t b6)] at h
      refine ⟨b6, ?_⟩
      obtain ⟨t7, ht7, h⟩ := of_bind h
      refine ⟨t7, ⟨halterref02_Class.fun_ ht7, trivial⟩, ?_⟩
      refine ⟨b6, ?_⟩
      refine ⟨trivial, ?_⟩
      refine ⟨b4, ?_⟩
      refine ⟨b6, ?_⟩
      refine ⟨b4, ?_⟩
      refine ⟨fun b8 => ?_, fun b8 => ?_⟩
      · rw [if_neg (beq_f b8)] at h
        refine ⟨b8, ?_⟩
        obtain ⟨t9, ht9, h⟩ := of_bind h
        refine ⟨t9, ⟨halterref02_Class.fun_ ht9, trivial⟩, ?_⟩
        refine ⟨b8, ?_⟩
        refine ⟨trivial, ?_⟩
        refine ⟨b8, ?_⟩
        refine ⟨fun b10 => ?_, fun b10 => ?_⟩
        · rw [if_pos (beq_t b10)] at h
          refine ⟨b10, ?_⟩
          obtain ⟨t11, ht11, h⟩ := of_bind h
          refine ⟨t11, ⟨halterref02_Class.fun_ ht11, trivial⟩, ?_⟩
          refine ⟨b10, ?_⟩
          refine ⟨trivial, ?_⟩
          refine ⟨b8, ?_⟩
          refine ⟨b10, ?_⟩
          refine ⟨b8, ?_⟩
          refine ⟨fun b12 => ?_, fun b12 => ?_⟩
          · rw [if_pos (beq_t b12)] at h
            refine ⟨trivial, ?_⟩
            refine ⟨trivial, ?_⟩
            obtain rfl := Option.some.inj h
            exact ⟨trivial, trivial, rfl, rfl⟩
          · rw [if_neg (beq_f b12)] at h
            obtain ⟨t13, ht13, h⟩ := of_bind h
            refine ⟨t13, ⟨halterref02_Class.fun_ ht13, trivial⟩, ?_⟩
            refine ⟨trivial, ?_⟩
            refine ⟨fun b14 => ?_, fun b14 => ?_⟩
            · rw [if_neg (beq_f b14)] at h
              refine ⟨b14, ?_⟩
              obtain ⟨t16, ht16, h⟩ := of_bind h
              refine ⟨t16, ⟨halterref02_Class.fun_ ht16, trivial⟩, ?_⟩
              refine ⟨b14, ?_⟩
              refine ⟨trivial, ?_⟩
              refine ⟨b14, ?_⟩
              refine ⟨fun b17 => ?_, fun b17 => ?_⟩
              · rw [if_pos (beq_t b17)] at h
                obtain ⟨t18, ht18, h⟩ := of_bind h
                refine ⟨t18, ⟨halterref02_signed.fun_ ht18, trivial⟩, ?_⟩
                refine ⟨trivial, ?_⟩
                obtain rfl := Option.some.inj h
                exact ⟨trivial, trivial, rfl, rfl⟩
              · rw [if_neg (beq_f b17)] at h
                obtain ⟨t19, ht19, h⟩ := of_bind h
                refine ⟨t19, ⟨halterref02_Open.fun_ ht19, trivial⟩, ?_⟩
                obtain ⟨t20, ht20, h⟩ := of_bind h
                refine ⟨t20, ⟨halterref02_Open.fun_ ht20, trivial⟩, ?_⟩
                refine ⟨trivial, ?_⟩
                refine ⟨trivial, ?_⟩
                refine ⟨trivial, ?_⟩
                refine ⟨trivial, ?_⟩
                refine ⟨fun b21 => ?_, fun b21 => ?_⟩
                · rw [if_neg (beq_f b21)] at h
                  refine ⟨b21, ?_⟩
                  refine ⟨trivial, ?_⟩
                  refine ⟨b21, ?_⟩
                  refine ⟨trivial, ?_⟩
                  refine ⟨b21, ?_⟩
                  refine ⟨fun b23 => ?_, fun b23 => ?_⟩
                  · rw [if_pos (beq_t b23)] at h
                    obtain ⟨t24, ht24, h⟩ := of_bind h
                    refine ⟨t24, ⟨halterref02_signed.fun_ ht24, trivial⟩, ?_⟩
                    refine ⟨trivial, ?_⟩
                    obtain rfl := Option.some.inj h
                    exact ⟨trivial, ⟨trivial, trivial⟩, rfl, rfl⟩
                  · rw [if_neg (beq_f b23)] at h
                    refine ⟨trivial, ?_⟩
                    refine ⟨trivial, ?_⟩
                    obtain ⟨t31, ht31, h⟩ := of_bind h
                    refine ⟨⟨trivial, trivial⟩, t31, Trip.loop FUEL (halterref02_Mul.l0_ok t1 t2 t19 t20 FUEL t19.2.1 t19.2.2.1 t31 ht31), ?_⟩
                    refine ⟨trivial, ?_⟩
                    obtain ⟨t43, ht43, h⟩ := of_bind h
                    refine ⟨⟨trivial, trivial⟩, t43, Trip.loop FUEL (halterref02_Mul.l1_ok t1 t2 t19 t20 t31 FUEL t20.2.1 t20.2.2.1 t43 ht43), ?_⟩
                    refine ⟨trivial, ?_⟩
                    refine ⟨trivial, ?_⟩
                    obtain ⟨t49, ht49, h⟩ := of_bind h
                    refine ⟨t49, ⟨halterref02_Product.fun_ ht49, trivial⟩, ?_⟩
                    refine ⟨trivial, ?_⟩
                    refine ⟨(by decide), ?_⟩
                    refine ⟨trivial, ?_⟩
                    refine ⟨trivial, ?_⟩
                    refine ⟨trivial, ?_⟩
                    refine ⟨trivial, ?_⟩
                    refine ⟨trivial, ?_⟩
                    refine ⟨(by decide), ?_⟩
                    refine ⟨trivial, ?_⟩
                    obtain ⟨t50, ht50, h⟩ := of_bind h
                    refine ⟨t50, ⟨halterref02_Round.fun_ ht50, trivial⟩, ?_⟩
                    refine ⟨trivial, ?_⟩
                    obtain rfl := Option.some.inj h
                    exact ⟨trivial, ⟨trivial, trivial⟩, rfl, rfl⟩
                · rw [if_pos (beq_t b21)] at h
                  refine ⟨b21, ?_⟩
                  refine ⟨b21, ?_⟩
                  refine ⟨b21, ?_⟩
                  refine ⟨rfl, ?_⟩
                  obtain ⟨t22, ht22, h⟩ := of_bind h
                  refine ⟨t22, ⟨halterref02_signed.fun_ ht22, trivial⟩, ?_⟩
                  refine ⟨trivial, ?_⟩
                  obtain rfl := Option.some.inj h
                  exact ⟨trivial, ⟨trivial, trivial⟩, rfl, rfl⟩
            · rw [if_pos (beq_t b14)] at h
              refine ⟨b14, ?_⟩
              refine ⟨b14, ?_⟩
              refine ⟨b14, ?_⟩
              refine ⟨rfl, ?_⟩
              obtain ⟨t15, ht15, h⟩ := of_bind h
              refine ⟨t15, ⟨halterref02_signed.fun_ ht15, trivial⟩, ?_⟩
              refine ⟨trivial, ?_⟩
              obtain rfl := Option.some.inj h
              exact ⟨trivial, trivial, rfl, rfl⟩
        · rw [if_neg (beq_f b10)] at h
          refine ⟨b10, ?_⟩
          refine ⟨b10, ?_⟩
          refine ⟨b8, ?_⟩
          refine ⟨b10, ?_⟩
          refine ⟨b8, ?_⟩
          refine ⟨rfl, ?_⟩
          obtain ⟨t51, ht51, h⟩ := of_bind h
          refine ⟨t51, ⟨halterref02_Class.fun_ ht51, trivial⟩, ?_⟩
          refine ⟨trivial, ?_⟩
          refine ⟨fun b52 => ?_, fun b52 => ?_⟩
          · rw [if_neg (beq_f b52)] at h
            refine ⟨b52, ?_⟩
            obtain ⟨t54, ht54, h⟩ := of_bind h
            refine ⟨t54, ⟨halterref02_Class.fun_ ht54, trivial⟩, ?_⟩
            refine ⟨b52, ?_⟩
            refine ⟨trivial, ?_⟩
            refine ⟨b52, ?_⟩
            refine ⟨fun b55 => ?_, fun b55 => ?_⟩
            · rw [if_pos (beq_t b55)] at h
              obtain ⟨t56, ht56, h⟩ := of_bind h
              refine ⟨t56, ⟨halterref02_signed.fun_ ht56, trivial⟩, ?_⟩
              refine ⟨trivial, ?_⟩
              obtain rfl := Option.some.inj h
              exact ⟨trivial, trivial, rfl, rfl⟩
            · rw [if_neg (beq_f b55)] at h
              obtain ⟨t57, ht57, h⟩ := of_bind h
              refine ⟨t57, ⟨halterref02_Open.fun_ ht57, trivial⟩, ?_⟩
              obtain ⟨t58, ht58, h⟩ := of_bind h
              refine ⟨t58, ⟨halterref02_Open.fun_ ht58, trivial⟩, ?_⟩
              refine ⟨trivial, ?_⟩
              refine ⟨trivial, ?_⟩
              refine ⟨trivial, ?_⟩
              refine ⟨trivial, ?_⟩
              refine ⟨fun b59 => ?_, fun b59 => ?_⟩
              · rw [if_neg (beq_f b59)] at h
                refine ⟨b59, ?_⟩
                refine ⟨trivial, ?_⟩
                refine ⟨b59, ?_⟩
                refine ⟨trivial, ?_⟩
                refine ⟨b59, ?_⟩
                refine ⟨fun b61 => ?_, fun b61 => ?_⟩
                · rw [if_pos (beq_t b61)] at h
                  obtain ⟨t62, ht62, h⟩ := of_bind h
                  refine ⟨t62, ⟨halterref02_signed.fun_ ht62, trivial⟩, ?_⟩
                  refine ⟨trivial, ?_⟩
                  obtain rfl := Option.some.inj h
                  exact ⟨trivial, ⟨trivial, trivial⟩, rfl, rfl⟩
                · rw [if_neg (beq_f b61)] at h
                  refine ⟨trivial, ?_⟩
                  refine ⟨trivial, ?_⟩
                  obtain ⟨t69, ht69, h⟩ := of_bind h
                  refine ⟨⟨trivial, trivial⟩, t69, Trip.loop FUEL (halterref02_Mul.l2_ok t1 t2 t57 t58 FUEL t57.2.1 t57.2.2.1 t69 ht69), ?_⟩
                  refine ⟨trivial, ?_⟩
                  obtain ⟨t81, ht81, h⟩ := of_bind h
                  refine ⟨⟨trivial, trivial⟩, t81, Trip.loop FUEL (halterref02_Mul.l3_ok t1 t2 t57 t58 t69 FUEL t58.2.1 t58.2.2.1 t81 ht81), ?_⟩
                  refine ⟨trivial, ?_⟩
                  refine ⟨trivial, ?_⟩
                  obtain ⟨t87, ht87, h⟩ := of_bind h
                  refine ⟨t87, ⟨halterref02_Product.fun_ ht87, trivial⟩, ?_⟩
                  refine ⟨trivial, ?_⟩
                  refine ⟨(by decide), ?_⟩
                  refine ⟨trivial, ?_⟩
                  refine ⟨trivial, ?_⟩
                  refine ⟨trivial, ?_⟩
                  refine ⟨trivial, ?_⟩
                  refine ⟨trivial, ?_⟩
                  refine ⟨(by decide), ?_⟩
                  refine ⟨trivial, ?_⟩
                  obtain ⟨t88, ht88, h⟩ := of_bind h
                  refine ⟨t88, ⟨halterref02_Round.fun_ ht88, trivial⟩, ?_⟩
                  refine ⟨trivial, ?_⟩
                  obtain rfl := Option.some.inj h
                  exact ⟨trivial, ⟨trivial, trivial⟩, rfl, rfl⟩
              · rw [if_pos (beq_t b59)] at h
                refine ⟨b59, ?_⟩
                refine ⟨b59, ?_⟩
                refine ⟨b59, ?_⟩
                refine ⟨rfl, ?_⟩
                obtain ⟨t60, ht60, h⟩ := of_bind h
                refine ⟨t60, ⟨halterref02_signed.fun_ ht60, trivial⟩, ?_⟩
                refine ⟨trivial, ?_⟩
                obtain rfl := Option.some.inj h
                exact ⟨trivial, ⟨trivial, trivial⟩, rfl, rfl⟩
          · rw [if_pos (beq_t b52)] at h
            refine ⟨b52, ?_⟩
            refine ⟨b52, ?_⟩
            refine ⟨b52, ?_⟩
            refine ⟨rfl, ?_⟩
            obtain ⟨t53, ht53, h⟩ := of_bind h
            refine ⟨t53, ⟨halterref02_signed.fun_ ht53, trivial⟩, ?_⟩
            refine ⟨trivial, ?_⟩
            obtain rfl := Option.some.inj h
            exact ⟨trivial, trivial, rfl, rfl⟩
      · rw [if_pos (beq_t b8)] at h
        refine ⟨b8, ?_⟩
        refine ⟨b8, ?_⟩
        refine ⟨b8, ?_⟩
        refine ⟨b8, ?_⟩
        refine ⟨b8, ?_⟩
        refine ⟨rfl, ?_⟩
        refine ⟨trivial, ?_⟩
        refine ⟨trivial, ?_⟩
        obtain rfl := Option.some.inj h
        exact ⟨trivial, trivial, rfl, rfl⟩
    · rw [if_neg (beq_f b6)] at h
      refine ⟨b6, ?_⟩
      refine ⟨b6, ?_⟩
      refine ⟨b4, ?_⟩
      refine ⟨b6, ?_⟩
      refine ⟨b4, ?_⟩
      refine ⟨rfl, ?_⟩
      refine ⟨rfl, ?_⟩
      obtain ⟨t89, ht89, h⟩ := of_bind h
      refine ⟨t89, ⟨halterref02_Class.fun_ ht89, trivial⟩, ?_⟩
      refine ⟨rfl, ?_⟩
      refine ⟨trivial, ?_⟩
      refine ⟨rfl, ?_⟩
      refine ⟨fun b90 => ?_, fun b90 => ?_⟩
      · rw [if_pos (beq_t b90)] at h
        refine ⟨b90, ?_⟩
        obtain ⟨t91, ht91, h⟩ := of_bind h
        refine ⟨t91, ⟨halterref02_Class.fun_ ht91, trivial⟩, ?_⟩
        refine ⟨b90, ?_⟩
        refine ⟨trivial, ?_⟩
        refine ⟨rfl, ?_⟩
        refine ⟨b90, ?_⟩
        refine ⟨rfl, ?_⟩
        refine ⟨fun b92 => ?_, fun b92 => ?_⟩
        · rw [if_pos (beq_t b92)] at h
          refine ⟨trivial, ?_⟩
          refine ⟨trivial, ?_⟩
          obtain rfl := Option.some.inj h
          exact ⟨trivial, trivial, rfl, rfl⟩
        · rw [if_neg (beq_f b92)] at h
          obtain ⟨t93, ht93, h⟩ := of_bind h
          refine ⟨t93, ⟨halterref02_Class.fun_ ht93, trivial⟩, ?_⟩
          refine ⟨trivial, ?_⟩
          refine ⟨fun b94 => ?_, fun b94 => ?_⟩
          · rw [if_neg (beq_f b94)] at h
            refine ⟨b94, ?_⟩
            obtain ⟨t96, ht96, h⟩ := of_bind h
            refine ⟨t96, ⟨halterref02_Class.fun_ ht96, trivial⟩, ?_⟩
            refine ⟨b94, ?_⟩
            refine ⟨trivial, ?_⟩
            refine ⟨b94, ?_⟩
            refine ⟨fun b97 => ?_, fun b97 => ?_⟩
            · rw [if_pos (beq_t b97)] at h
              obtain ⟨t98, ht98, h⟩ := of_bind h
              refine ⟨t98, ⟨halterref02_signed.fun_ ht98, trivial⟩, ?_⟩
              refine ⟨trivial, ?_⟩
              obtain rfl := Option.some.inj h
              exact ⟨trivial, trivial, rfl, rfl⟩
            · rw [if_neg (beq_f b97)] at h
              obtain ⟨t99, ht99, h⟩ := of_bind h
              refine ⟨t99, ⟨halterref02_Open.fun_ ht99, trivial⟩, ?_⟩
              obtain ⟨t100, ht100, h⟩ := of_bind h
              refine ⟨t100, ⟨halterref02_Open.fun_ ht100, trivial⟩, ?_⟩
              refine ⟨trivial, ?_⟩
              refine ⟨trivial, ?_⟩
              refine ⟨trivial, ?_⟩
              refine ⟨trivial, ?_⟩
              refine ⟨fun b101 => ?_, fun b101 => ?_⟩
              · rw [if_neg (beq_f b101)] at h
                refine ⟨b101, ?_⟩
                refine ⟨trivial, ?_⟩
                refine ⟨b101, ?_⟩
                refine ⟨trivial, ?_⟩
                refine ⟨b101, ?_⟩
                refine ⟨fun b103 => ?_, fun b103 => ?_⟩
                · rw [if_pos (beq_t b103)] at h
                  obtain ⟨t104, ht104, h⟩ := of_bind h
                  refine ⟨t104, ⟨halterref02_signed.fun_ ht104, trivial⟩, ?_⟩
                  refine ⟨trivial, ?_⟩
                  obtain rfl := Option.some.inj h
                  exact ⟨trivial, ⟨trivial, trivial⟩, rfl, rfl⟩
                · rw [if_neg (beq_f b103)] at h
                  refine ⟨trivial, ?_⟩
                  refine ⟨trivial, ?_⟩
                  obtain ⟨t111, ht111, h⟩ := of_bind h
                  refine ⟨⟨trivial, trivial⟩, t111, Trip.loop FUEL (halterref02_Mul.l4_ok t1 t2 t99 t100 FUEL t99.2.1 t99.2.2.1 t111 ht111), ?_⟩
                  refine ⟨trivial, ?_⟩
                  obtain ⟨t123, ht123, h⟩ := of_bind h
                  refine ⟨⟨trivial, trivial⟩, t123, Trip.loop FUEL (halterref02_Mul.l5_ok t1 t2 t99 t100 t111 FUEL t100.2.1 t100.2.2.1 t123 ht123), ?_⟩
                  refine ⟨trivial, ?_⟩
                  refine ⟨trivial, ?_⟩
                  obtain ⟨t129, ht129, h⟩ := of_bind h
                  refine ⟨t129, ⟨halterref02_Product.fun_ ht129, trivial⟩, ?_⟩
                  refine ⟨trivial, ?_⟩
                  refine ⟨(by decide), ?_⟩
                  refine ⟨trivial, ?_⟩
                  refine ⟨trivial, ?_⟩
                  refine ⟨trivial, ?_⟩
                  refine ⟨trivial, ?_⟩
                  refine ⟨trivial, ?_⟩
                  refine ⟨(by decide), ?_⟩
                  refine ⟨trivial, ?_⟩
                  obtain ⟨t130, ht130, h⟩ := of_bind h
                  refine ⟨t130, ⟨halterref02_Round.fun_ ht130, trivial⟩, ?_⟩
                  refine ⟨trivial, ?_⟩
                  obtain rfl := Option.some.inj h
                  exact ⟨trivial, ⟨trivial, trivial⟩, rfl, rfl⟩
              · rw [if_pos (beq_t b101)] at h
                refine ⟨b101, ?_⟩
                refine ⟨b101, ?_⟩
                refine ⟨b101, ?_⟩
                refine ⟨rfl, ?_⟩
                obtain ⟨t102, ht102, h⟩ := of_bind h
                refine ⟨t102, ⟨halterref02_signed.fun_ ht102, trivial⟩, ?_⟩
                refine ⟨trivial, ?_⟩
                obtain rfl := Option.some.inj h
                exact ⟨trivial, ⟨trivial, trivial⟩, rfl, rfl⟩
          · rw [if_pos (beq_t b94)] at h
            refine ⟨b94, ?_⟩
            refine ⟨b94, ?_⟩
            refine ⟨b94, ?_⟩
            refine ⟨rfl, ?_⟩
            obtain ⟨t95, ht95, h⟩ := of_bind h
            refine ⟨t95, ⟨halterref02_signed.fun_ ht95, trivial⟩, ?_⟩
            refine ⟨trivial, ?_⟩
            obtain rfl := Option.some.inj h
            exact ⟨trivial, trivial, rfl, rfl⟩
      · rw [if_neg (beq_f b90)] at h
        refine ⟨b90, ?_⟩
        refine ⟨b90, ?_⟩
        refine ⟨rfl, ?_⟩
        refine ⟨b90, ?_⟩
        refine ⟨rfl, ?_⟩
        refine ⟨rfl, ?_⟩
        obtain ⟨t131, ht131, h⟩ := of_bind h
        refine ⟨t131, ⟨halterref02_Class.fun_ ht131, trivial⟩, ?_⟩
        refine ⟨trivial, ?_⟩
        refine ⟨fun b132 => ?_, fun b132 => ?_⟩
        · rw [if_neg (beq_f b132)] at h
          refine ⟨b132, ?_⟩
          obtain ⟨t134, ht134, h⟩ := of_bind h
          refine ⟨t134, ⟨halterref02_Class.fun_ ht134, trivial⟩, ?_⟩
          refine ⟨b132, ?_⟩
          refine ⟨trivial, ?_⟩
          refine ⟨b132, ?_⟩
          refine ⟨fun b135 => ?_, fun b135 => ?_⟩
          · rw [if_pos (beq_t b135)] at h
            obtain ⟨t136, ht136, h⟩ := of_bind h
            refine ⟨t136, ⟨halterref02_signed.fun_ ht136, trivial⟩, ?_⟩
            refine ⟨trivial, ?_⟩
            obtain rfl := Option.some.inj h
            exact ⟨trivial, trivial, rfl, rfl⟩
          · rw [if_neg (beq_f b135)] at h
            obtain ⟨t137, ht137, h⟩ := of_bind h
            refine ⟨t137, ⟨halterref02_Open.fun_ ht137, trivial⟩, ?_⟩
            obtain ⟨t138, ht138, h⟩ := of_bind h
            refine ⟨t138, ⟨halterref02_Open.fun_ ht138, trivial⟩, ?_⟩
            refine ⟨trivial, ?_⟩
            refine ⟨trivial, ?_⟩
            refine ⟨trivial, ?_⟩
            refine ⟨trivial, ?_⟩
            refine ⟨fun b139 => ?_, fun b139 => ?_⟩
            · rw [if_neg (beq_f b139)] at h
              refine ⟨b139, ?_⟩
              refine ⟨trivial, ?_⟩
              refine ⟨b139, ?_⟩
              refine ⟨trivial, ?_⟩
              refine ⟨b139, ?_⟩
              refine ⟨fun b141 => ?_, fun b141 => ?_⟩
              · rw [if_pos (beq_t b141)] at h
                obtain ⟨t142, ht142, h⟩ := of_bind h
                refine ⟨t142, ⟨halterref02_signed.fun_ ht142, trivial⟩, ?_⟩
                refine ⟨trivial, ?_⟩
                obtain rfl := Option.some.inj h
                exact ⟨trivial, ⟨trivial, trivial⟩, rfl, rfl⟩
              · rw [if_neg (beq_f b141)] at h
                refine ⟨trivial, ?_⟩
                refine ⟨trivial, ?_⟩
                obtain ⟨t149, ht149, h⟩ := of_bind h
                refine ⟨⟨trivial, trivial⟩, t149, Trip.loop FUEL (halterref02_Mul.l6_ok t1 t2 t137 t138 FUEL t137.2.1 t137.2.2.1 t149 ht149), ?_⟩
                refine ⟨trivial, ?_⟩
                obtain ⟨t161, ht161, h⟩ := of_bind h
                refine ⟨⟨trivial, trivial⟩, t161, Trip.loop FUEL (halterref02_Mul.l7_ok t1 t2 t137 t138 t149 FUEL t138.2.1 t138.2.2.1 t161 ht161), ?_⟩
                refine ⟨trivial, ?_⟩
                refine ⟨trivial, ?_⟩
                obtain ⟨t167, ht167, h⟩ := of_bind h
                refine ⟨t167, ⟨halterref02_Product.fun_ ht167, trivial⟩, ?_⟩
                refine ⟨trivial, ?_⟩
                refine ⟨(by decide), ?_⟩
                refine ⟨trivial, ?_⟩
                refine ⟨trivial, ?_⟩
                refine ⟨trivial, ?_⟩
                refine ⟨trivial, ?_⟩
                refine ⟨trivial, ?_⟩
                refine ⟨(by decide), ?_⟩
                refine ⟨trivial, ?_⟩
                obtain ⟨t168, ht168, h⟩ := of_bind h
                refine ⟨t168, ⟨halterref02_Round.fun_ ht168, trivial⟩, ?_⟩
                refine ⟨trivial, ?_⟩
                obtain rfl := Option.some.inj h
                exact ⟨trivial, ⟨trivial, trivial⟩, rfl, rfl⟩
            · rw [if_pos (beq_t b139)] at h
              refine ⟨b139, ?_⟩
              refine ⟨b139, ?_⟩
              refine ⟨b139, ?_⟩
              refine ⟨rfl, ?_⟩
              obtain ⟨t140, ht140, h⟩ := of_bind h
              refine ⟨t140, ⟨halterref02_signed.fun_ ht140, trivial⟩, ?_⟩
              refine ⟨trivial, ?_⟩
              obtain rfl := Option.some.inj h
              exact ⟨trivial, ⟨trivial, trivial⟩, rfl, rfl⟩
        · rw [if_pos (beq_t b132)] at h
          refine ⟨b132, ?_⟩
          refine ⟨b132, ?_⟩
          refine ⟨b132, ?_⟩
          refine ⟨rfl, ?_⟩
          obtain ⟨t133, ht133, h⟩ := of_bind h
          refine ⟨t133, ⟨halterref02_signed.fun_ ht133, trivial⟩, ?_⟩
          refine ⟨trivial, ?_⟩
          obtain rfl := Option.some.inj h
          exact ⟨trivial, trivial, rfl, rfl⟩
  · rw [if_pos b4] at h
    refine ⟨b4, ?_⟩
    refine ⟨b4, ?_⟩
    refine ⟨b4, ?_⟩
    refine ⟨b4, ?_⟩
    refine ⟨b4, ?_⟩
    refine ⟨rfl, ?_⟩
    refine ⟨rfl, ?_⟩
    refine ⟨rfl, ?_⟩
    refine ⟨rfl, ?_⟩
    refine ⟨rfl, ?_⟩
    refine ⟨rfl, ?_⟩
    refine ⟨rfl, ?_⟩
    refine ⟨trivial, ?_⟩
    refine ⟨trivial, ?_⟩
    obtain rfl := Option.some.inj h
    exact ⟨trivial, trivial, rfl, rfl⟩
/-! halter/halterref02.Div -/
def halterref02_Div.l0 (t1 : Bool) (t2 : Bool) (t25 : Bool × Int × Int × Bool) (t26 : Bool × Int × Int × Bool) : Nat → Int → Int → Option (Int × Int)
  | 0, _, _ => none
  | n + 1, x28, x29 =>
    if x28 < (4503599627370496 : Int) then
      halterref02_Div.l0 t1 t2 t25 t26 n (IntKind.wrap .u64 ((2 : Int) * x28)) (IntKind.wrap .i64 (x29 - (1 : Int)))
    else
      some (x28, x29)
def halterref02_Div.l0_S (t1 : Bool) (t2 : Bool) (t25 : Bool × Int × Int × Bool) (t26 : Bool × Int × Int × Bool) (x28 : Int) (x29 : Int) : St := ⟨[.any, .any, .any, .any, .any, .v (.one (.sc (.bool (!(t1 == t2))))), .v (.one (.ptr 0 ⟨0, 0, 0, 0⟩)), .v (.one (.ptr 1 ⟨0, 0, 0, 0⟩)), .any, .any, .any, .any, .any, .any, .any, .any, .any, .any, .any, .any, .any, .any, .any, .any, .any, .any, .any, .any, .any, .any, .any, .any, .any, .any, .any, .any, .any, .any, .any, .any, .any, .any, .any, .any, .any, .any, .any, .any, .any, .any, .any, .any, .any, .any, .any, .any, .any, .any, .any, .any, .any, .any, .any, .any, .any, .any, .any, .any, .any, .any, .any, .any, .any, .any, .any, .any, .any, .any, .any, .any, .any, .any, .any, .any, .any, .any, .any, .any, .any, .any, .any, .any, .any, .any, .any, .any, .any, .any, .any, .any, .any, .any, .any, .any, .any, .any, .any, .any, .any, .any, .any, .any, .any, .any, .any, .any, .any, .any, .any, .any, .any, .any, .any, .any], [.ex false [.c (.sc (.bool t25.1)), .c (.sc (.int .u64 x28)), .c (.sc (.int .i64 x29)), .c (.sc (.bool t25.2.2.2))] 44, .ex false [.c (.sc (.bool t26.1)), .c (.sc (.int .u64 t26.2.1)), .c (.sc (.int .i64 t26.2.2.1)), .c (.sc (.bool t26.2.2.2))] 44], 0⟩
def halterref02_Div.l0_Q (t1 : Bool) (t2 : Bool) (t25 : Bool × Int × Int × Bool) (t26 : Bool × Int × Int × Bool) (t : Int × Int) : Exit → St → Prop := fun e s => e = (.exit 0) ∧ s = ⟨[.any, .any, .any, .any, .any, .v (.one (.sc (.bool (!(t1 == t2))))), .v (.one (.ptr 0 ⟨0, 0, 0, 0⟩)), .v (.one (.ptr 1 ⟨0, 0, 0, 0⟩)), .any, .any, .any, .any, .any, .any, .any, .any, .any, .any, .any, .any, .any, .any, .any, .any, .any, .any, .any, .any, .any, .any, .any, .any, .any, .any, .any, .any, .any, .any, .any, .any, .any, .any, .any, .any, .any, .any, .any, .any, .any, .any, .any, .any, .any, .any, .any, .any, .any, .any, .any, .any, .any, .any, .any, .any, .any, .any, .any, .any, .any, .any, .any, .any, .any, .any, .any, .any, .any, .any, .any, .any, .any, .any, .any, .any, .any, .any, .any, .any, .any, .any, .any, .any, .any, .any, .any, .any, .any, .any, .any, .any, .any, .any, .any, .any, .any, .any, .any, .any, .any, .any, .any, .any, .any, .any, .any, .any, .any, .any, .any, .any, .any, .any, .any, .any], [.ex false [.c (.sc (.bool t25.1)), .c (.sc (.int .u64 t.1)), .c (.sc (.int .i64 t.2)), .c (.sc (.bool t25.2.2.2))] 44, .ex false [.c (.sc (.bool t26.1)), .c (.sc (.int .u64 t26.2.1)), .c (.sc (.int .i64 t26.2.2.1)), .c (.sc (.bool t26.2.2.2))] 44], 0⟩
theorem halterref02_Div.l0_ok (t1 : Bool) (t2 : Bool) (t25 : Bool × Int × Int × Bool) (t26 : Bool × Int × Int × Bool) : ∀ (n : Nat) (x28 : Int) (x29 : Int) (r : Int × Int), halterref02_Div.l0 t1 t2 t25 t26 n x28 x29 = some r → TripN cfg (cpath (Try.f12.body.getD .skip) [1, 1, 1, 1, 1, 1, 0, 0, 0]) n (halterref02_Div.l0_S t1 t2 t25 t26 x28 x29) (halterref02_Div.l0_Q t1 t2 t25 t26 r) := by
  intro n
  induction n with
  | zero => intro x28 x29 r h; cases h
  | succ n ih =>
    intro x28 x29 r h
    rw [halterref02_Div.l0] at h
    refine TripN.of_run cfg_ok (k := (.br (.adj [] (.adj [] (.adj [] (.adj [.keep [5, 6, 7], .drop 2] .nil)))) (.adj [.keep [5, 6, 7], .drop 2] .nil))) (to_goal (q := (True) ∧ (True) ∧ (((decide (x28 < (4503599627370496 : Int))) = true → (True ∧ (True ∧ (True ∧ (True) ∧ (True) ∧ (True) ∧ (True) ∧ (True) ∧ (True) ∧ (((True) ∧ (True) ∧ True) ∧ TripN cfg (cpath (Try.f12.body.getD .skip) [1, 1, 1, 1, 1, 1, 0, 0, 0]) n (halterref02_Div.l0_S t1 t2 t25 t26 (IntKind.wrap .u64 ((2 : Int) * x28)) (IntKind.wrap .i64 (x29 - (1 : Int)))) (halterref02_Div.l0_Q t1 t2 t25 t26 r)))))) ∧ ((decide (x28 < (4503599627370496 : Int))) = false → (((True) ∧ (True) ∧ True) ∧ halterref02_Div.l0_Q t1 t2 t25 t26 r (.exit 0) ⟨[.any, .any, .any, .any, .any, .v (.one (.sc (.bool (!(t1 == t2))))), .v (.one (.ptr 0 ⟨0, 0, 0, 0⟩)), .v (.one (.ptr 1 ⟨0, 0, 0, 0⟩)), .any, .any, .any, .any, .any, .any, .any, .any, .any, .any, .any, .any, .any, .any, .any, .any, .any, .any, .any, .any, .any, .any, .any, .any, .any, .any, .any, .any, .any, .any, .any, .any, .any, .any, .any, .any, .any, .any, .any, .any, .any, .any, .any, .any, .any, .any, .any, .any, .any, .any, .any, .any, .any, .any, .any, .any, .any, .any, .any, .any, .any, .any, .any, .any, .any, .any, .any, .any, .any, .any, .any, .any, .any, .any, .any, .any, .any, .any, .any, .any, .any, .any, .any, .any, .any, .any, .any, .any, .any, .any, .any, .any, .any, .any, .any, .any, .any, .any, .any, .any, .any, .any, .any, .any, .any, .any, .any, .any, .any, .any, .any, .any, .any, .any, .any, .any], [.ex false [.c (.sc (.bool t25.1)), .c (.sc (.int .u64 x28)), .c (.sc (.int .i64 x29)), .c (.sc (.bool (z3 t25)))] 44, .ex false [.c (.sc (.bool t26.1)), .c (.sc (.int .u64 t26.2.1)), .c (.sc (.int .i64 (p2 t26))), .c (.sc (.bool (z3 t26)))] 44], 0⟩)))) (by kernel_rfl) ?_)
    refine ⟨trivial, ?_⟩
    refine ⟨trivial, ?_⟩
    refine ⟨fun b34 => ?_, fun b34 => ?_⟩
    · rw [if_pos (of_decide_eq_true b34)] at h
      refine ⟨trivial, ?_⟩
      refine ⟨trivial, ?_⟩
      refine ⟨trivial, ?_⟩
      refine ⟨trivial, ?_⟩
      refine ⟨trivial, ?_⟩
      refine ⟨trivial, ?_⟩
      refine ⟨trivial, ?_⟩
      refine ⟨trivial, ?_⟩
      refine ⟨trivial, ?_⟩
      exact ⟨⟨trivial, trivial, trivial⟩, ih (IntKind.wrap .u64 ((2 : Int) * x28)) (IntKind.wrap .i64 (x29 - (1 : Int))) r h⟩
    · rw [if_neg (of_decide_eq_false b34)] at h
      obtain rfl := Option.some.inj h
      exact ⟨⟨trivial, trivial, trivial⟩, rfl, rfl⟩
def halterref02_Div.l1 (t1 : Bool) (t2 : Bool) (t25 : Bool × Int × Int × Bool) (t26 : Bool × Int × Int × Bool) (t33 : Int × Int) : Nat → Int → Int → Option (Int × Int)
  | 0, _, _ => none
  | n + 1, x40, x41 =>
    if x40 < (4503599627370496 : Int) then
      halterref02_Div.l1 t1 t2 t25 t26 t33 n (IntKind.wrap .u64 ((2 : Int) * x40)) (IntKind.wrap .i64 (x41 - (1 : Int)))
    else
      some (x40, x41)
def halterref02_Div.l1_S (t1 : Bool) (t2 : Bool) (t25 : Bool × Int × Int × Bool) (t26 : Bool × Int × Int × Bool) (t33 : Int × Int) (x40 : Int) (x41 : Int) : St := ⟨[.any, .any, .any, .any, .any, .v (.one (.sc (.bool (!(t1 == t2))))), .v (.one (.ptr 0 ⟨0, 0, 0, 0⟩)), .v (.one (.ptr 1 ⟨0, 0, 0, 0⟩)), .any, .any, .any, .any, .any, .any, .any, .any, .any, .any, .any, .any, .any, .any, .any, .any, .any, .any, .any, .any, .any, .any, .any, .any, .any, .any, .any, .any, .any, .any, .any, .any, .any, .any, .any, .any, .any, .any, .any, .any, .any, .any, .any, .any, .any, .any, .any, .any, .any, .any, .any, .any, .any, .any, .any, .any, .any, .any, .any, .any, .any, .any, .any, .any, .any, .any, .any, .any, .any, .any, .any, .any, .any, .any, .any, .any, .any, .any, .any, .any, .any, .any, .any, .any, .any, .any, .any, .any, .any, .any, .any, .any, .any, .any, .any, .any, .any, .any, .any, .any, .any, .any, .any, .any, .any, .any, .any, .any, .any, .any, .any, .any, .any, .any, .any, .any], [.ex false [.c (.sc (.bool t25.1)), .c (.sc (.int .u64 t33.1)), .c (.sc (.int .i64 t33.2)), .c (.sc (.bool t25.2.2.2))] 44, .ex false [.c (.sc (.bool t26.1)), .c (.sc (.int .u64 x40)), .c (.sc (.int .i64 x41)), .c (.sc (.bool t26.2.2.2))] 44], 0⟩
def halterref02_Div.l1_Q (t1 : Bool) (t2 : Bool) (t25 : Bool × Int × Int × Bool) (t26 : Bool × Int × Int × Bool) (t33 : Int × Int) (t : Int × Int) : Exit → St → Prop := fun e s => e = (.exit 2) ∧ s = ⟨[.any, .any, .any, .any, .any, .v (.one (.sc (.bool (!(t1 == t2))))), .v (.one (.ptr 0 ⟨0, 0, 0, 0⟩)), .v (.one (.ptr 1 ⟨0, 0, 0, 0⟩)), .any, .any, .any, .any, .any, .any, .any, .any, .any, .any, .any, .any, .any, .any, .any, .any, .any, .any, .any, .any, .any, .any, .any, .any, .any, .any, .any, .any, .any, .any, .any, .any, .any, .any, .any, .any, .any, .any, .any, .any, .any, .any, .any, .any, .any, .any, .any, .any, .any, .any, .any, .any, .any, .any, .any, .any, .any, .any, .any, .any, .any, .any, .any, .any, .any, .any, .any, .any, .any, .any, .any, .any, .any, .any, .any, .any, .any, .any, .any, .any, .any, .any, .any, .any, .any, .any, .any, .any, .any, .any, .any, .any, .any, .any, .any, .any, .any, .any, .any, .any, .any, .any, .any, .any, .any, .any, .any, .any, .any, .any, .any, .any, .any, .any, .any, .any], [.ex false [.c (.sc (.bool t25.1)), .c (.sc (.int .u64 t33.1)), .c (.sc (.int .i64 t33.2)), .c (.sc (.bool t25.2.2.2))] 44, .ex false [.c (.sc (.bool t26.1)), .c (.sc (.int .u64 t.1)), .c (.sc (.int .i64 t.2)), .c (.sc (.bool t26.2.2.2))] 44], 0⟩
theorem halterref02_Div.l1_ok (t1 : Bool) (t2 : Bool) (t25 : Bool × Int × Int × Bool) (t26 : Bool × Int × Int × Bool) (t33 : Int × Int) : ∀ (n : Nat) (x40 : Int) (x41 : Int) (r : Int × Int), halterref02_Div.l1 t1 t2 t25 t26 t33 n x40 x41 = some r → TripN cfg (cpath (Try.f12.body.getD .skip) [1, 1, 1, 1, 1, 1, 1, 0, 0, 0]) n (halterref02_Div.l1_S t1 t2 t25 t26 t33 x40 x41) (halterref02_Div.l1_Q t1 t2 t25 t26 t33 r) := by
  intro n
  induction n with
  | zero => intro x40 x41 r h; cases h
  | succ n ih =>
    intro x40 x41 r h
    rw [halterref02_Div.l1] at h
    refine TripN.of_run cfg_ok (k := (.br (.adj [] (.adj [] (.adj [] (.adj [.keep [5, 6, 7], .drop 2] .nil)))) (.adj [.keep [5, 6, 7], .drop 2] .nil))) (to_goal (q := (True) ∧ (True) ∧ (((decide (x40 < (4503599627370496 : Int))) = true → (True ∧ (True ∧ (True ∧ (True) ∧ (True) ∧ (True) ∧ (True) ∧ (True) ∧ (True) ∧ (((True) ∧ (True) ∧ True) ∧ TripN cfg (cpath (Try.f12.body.getD .skip) [1, 1, 1, 1, 1, 1, 1, 0, 0, 0]) n (halterref02_Div.l1_S t1 t2 t25 t26 t33 (IntKind.wrap .u64 ((2 : Int) * x40)) (IntKind.wrap .i64 (x41 - (1 : Int)))) (halterref02_Div.l1_Q t1 t2 t25 t26 t33 r)))))) ∧ ((decide (x40 < (4503599627370496 : Int))) = false → (((True) ∧ (True) ∧ True) ∧ halterref02_Div.l1_Q t1 t2 t25 t26 t33 r (.exit 2) ⟨[.any, .any, .any, .any, .any, .v (.one (.sc (.bool (!(t1 == t2))))), .v (.one (.ptr 0 ⟨0, 0, 0, 0⟩)), .v (.one (.ptr 1 ⟨0, 0, 0, 0⟩)), .any, .any, .any, .any, .any, .any, .any, .any, .any, .any, .any, .any, .any, .any, .any, .any, .any, .any, .any, .any, .any, .any, .any, .any, .any, .any, .any, .any, .any, .any, .any, .any, .any, .any, .any, .any, .any, .any, .any, .any, .any, .any, .any, .any, .any, .any, .any, .any, .any, .any, .any, .any, .any, .any, .any, .any, .any, .any, .any, .any, .any, .any, .any, .any, .any, .any, .any, .any, .any, .any, .any, .any, .any, .any, .any, .any, .any, .any, .any, .any, .any, .any, .any, .any, .any, .any, .any, .any, .any, .any, .any, .any, .any, .any, .any, .any, .any, .any, .any, .any, .any, .any, .any, .any, .any, .any, .any, .any, .any, .any, .any, .any, .any, .any, .any, .any], [.ex false [.c (.sc (.bool t25.1)), .c (.sc (.int .u64 t33.1)), .c (.sc (.int .i64 t33.2)), .c (.sc (.bool (z3 t25)))] 44, .ex false [.c (.sc (.bool t26.1)), .c (.sc (.int .u64 x40)), .c (.sc (.int .i64 x41)), .c (.sc (.bool (z3 t26)))] 44], 0⟩)))) (by kernel_rfl) ?_)
    refine ⟨trivial, ?_⟩
    refine ⟨trivial, ?_⟩
    refine ⟨fun b46 => ?_, fun b46 => ?_⟩
    · rw [if_pos (of_decide_eq_true b46)] at h
      refine ⟨trivial, ?_⟩
      refine ⟨trivial, ?_⟩
      refine ⟨trivial, ?_⟩
      refine ⟨trivial, ?_⟩
      refine ⟨trivial, ?_⟩
      refine ⟨trivial, ?_⟩
      refine ⟨trivial, ?_⟩
      refine ⟨trivial, ?_⟩
      refine ⟨trivial, ?_⟩
      exact ⟨⟨trivial, trivial, trivial⟩, ih (IntKind.wrap .u64 ((2 : Int) * x40)) (IntKind.wrap .i64 (x41 - (1 : Int))) r h⟩
    · rw [if_neg (of_decide_eq_false b46)] at h
      obtain rfl := Option.some.inj h
      exact ⟨⟨trivial, trivial, trivial⟩, rfl, rfl⟩
def halterref02_Div.l2 (t1 : Bool) (t2 : Bool) (t25 : Bool × Int × Int × Bool) (t26 : Bool × Int × Int × Bool) (t33 : Int × Int) (t45 : Int × Int) : Nat → Int → Int → Int → Option (Int × Int)
  | 0, _, _, _ => none
  | n + 1, x53, x54, x55 =>
    if x55 < (60 : Int) then
      if t45.1 ≠ 0 then
        if t45.1 ≠ 0 then
          halterref02_Div.l2 t1 t2 t25 t26 t33 t45 n (IntKind.wrap .u64 ((IntKind.wrap .u64 ((2 : Int) * x53)) + (IntKind.wrap .u64 (Int.tdiv (IntKind.wrap .u64 ((2 : Int) * x54)) t45.1)))) (Int.tmod (IntKind.wrap .u64 ((2 : Int) * x54)) t45.1) (IntKind.wrap .i64 (x55 + (1 : Int)))
        else none
      else none
    else
      some (x53, x54)
def halterref02_Div.l2_S (t1 : Bool) (t2 : Bool) (t25 : Bool × Int × Int × Bool) (t26 : Bool × Int × Int × Bool) (t33 : Int × Int) (t45 : Int × Int) (x53 : Int) (x54 : Int) (x55 : Int) : St := ⟨[.any, .any, .any, .any, .any, .v (.one (.sc (.bool (!(t1 == t2))))), .v (.one (.ptr 0 ⟨0, 0, 0, 0⟩)), .v (.one (.ptr 1 ⟨0, 0, 0, 0⟩)), .v (.one (.sc (.int .u64 x53))), .v (.one (.sc (.int .u64 x54))), .v (.one (.sc (.int .i64 x55))), .any, .any, .any, .any, .any, .any, .any, .any, .any, .any, .any, .any, .any, .any, .any, .any, .any, .any, .any, .any, .any, .any, .any, .any, .any, .any, .any, .any, .any, .any, .any, .any, .any, .any, .any, .any, .any, .any, .any, .any, .any, .any, .any, .any, .any, .any, .any, .any, .any, .any, .any, .any, .any, .any, .any, .any, .any, .any, .any, .any, .any, .any, .any, .any, .any, .any, .any, .any, .any, .any, .any, .any, .any, .any, .any, .any, .any, .any, .any, .any, .any, .any, .any, .any, .any, .any, .any, .any, .any, .any, .any, .any, .any, .any, .any, .any, .any, .any, .any, .any, .any, .any, .any, .any, .any, .any, .any, .any, .any, .any, .any, .any, .any], [.ex false [.c (.sc (.bool t25.1)), .c (.sc (.int .u64 t33.1)), .c (.sc (.int .i64 t33.2)), .c (.sc (.bool t25.2.2.2))] 44, .ex false [.c (.sc (.bool t26.1)), .c (.sc (.int .u64 t45.1)), .c (.sc (.int .i64 t45.2)), .c (.sc (.bool t26.2.2.2))] 44], 0⟩
def halterref02_Div.l2_Q (t1 : Bool) (t2 : Bool) (t25 : Bool × Int × Int × Bool) (t26 : Bool × Int × Int × Bool) (t33 : Int × Int) (t45 : Int × Int) (t : Int × Int) : Exit → St → Prop := fun e s => e = (.exit 4) ∧ s = ⟨[.any, .any, .any, .any, .any, .v (.one (.sc (.bool (!(t1 == t2))))), .v (.one (.ptr 0 ⟨0, 0, 0, 0⟩)), .v (.one (.ptr 1 ⟨0, 0, 0, 0⟩)), .v (.one (.sc (.int .u64 t.1))), .v (.one (.sc (.int .u64 t.2))), .any, .any, .any, .any, .any, .any, .any, .any, .any, .any, .any, .any, .any, .any, .any, .any, .any, .any, .any, .any, .any, .any, .any, .any, .any, .any, .any, .any, .any, .any, .any, .any, .any, .any, .any, .any, .any, .any, .any, .any, .any, .any, .any, .any, .any, .any, .any, .any, .any, .any, .any, .any, .any, .any, .any, .any, .any, .any, .any, .any, .any, .any, .any, .any, .any, .any, .any, .any, .any, .any, .any, .any, .any, .any, .any, .any, .any, .any, .any, .any, .any, .any, .any, .any, .any, .any, .any, .any, .any, .any, .any, .any, .any, .any, .any, .any, .any, .any, .any, .any, .any, .any, .any, .any, .any, .any, .any, .any, .any, .any, .any, .any, .any, .any], [.ex false [.c (.sc (.bool t25.1)), .c (.sc (.int .u64 t33.1)), .c (.sc (.int .i64 t33.2)), .c (.sc (.bool t25.2.2.2))] 44, .ex false [.c (.sc (.bool t26.1)), .c (.sc (.int .u64 t45.1)), .c (.sc (.int .i64 t45.2)), .c (.sc (.bool t26.2.2.2))] 44], 0⟩
end Go.Proofs.YtkaehhfdjenmcaaGSoftParts
