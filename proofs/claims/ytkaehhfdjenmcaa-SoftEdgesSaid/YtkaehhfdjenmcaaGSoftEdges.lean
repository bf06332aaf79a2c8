/- Printed by gen.py: what functions of the program compute, in plain Lean, and that they do. -/
import Derived.Test.YtkaehhfdjenmcaaE15
import Derived.Test.YtkaehhfdjenmcaaProg
import Derived.Test.YtkaehhfdjenmcaaF
set_option linter.unusedVariables false
set_option maxRecDepth 100000
set_option maxHeartbeats 4000000
namespace Go.Proofs.YtkaehhfdjenmcaaGSoftEdges
open Go Go.Proofs.YtkaehhfdjenmcaaE
def tiL : List (Nat × TI) := [
  (3, ⟨1, 8, false, .int .i64, [.c (.sc (.int .i64 (0 : Int)))], some (.int .i64)⟩),
  (4, ⟨1, 1, false, .bool, [.c (.sc (.bool false))], some .bool⟩),
  (22, ⟨1, 8, false, .int .u64, [.c (.sc (.int .u64 (0 : Int)))], some (.int .u64)⟩),
  (28, ⟨1, 4, false, .int .u32, [.c (.sc (.int .u32 (0 : Int)))], some (.int .u32)⟩)]
def tabs : List (Nat × IntKind × List Int) := []
noncomputable def cfg : Cfg := ⟨Try.prog, 0, [] ++ tabs.flatMap tabG, tiL, [], tabs⟩
theorem cfg_ok : COk cfg := by
  refine ⟨fun p hp => ?_, by kernel_rfl, fun p hp => ?_, fun t ht => ?_, fun x hx y hy => List.mem_append_right _ (List.mem_flatMap.2 ⟨x, hx, hy⟩)⟩
  · simp only [cfg, tiL, List.mem_cons, List.not_mem_nil, or_false] at hp
    rcases hp with rfl | rfl | rfl | rfl <;> exact ⟨by kernel_rfl, by kernel_rfl, by kernel_rfl, by kernel_rfl, by kernel_rfl, by kernel_rfl⟩
  · simp only [cfg, tiL, List.mem_cons, List.not_mem_nil, or_false] at hp
    rcases hp with rfl | rfl | rfl | rfl <;> intro fs hfs bl hbl
    · cases hfs
    · cases hfs
    · cases hfs
    · cases hfs
  · cases ht
def fin : Scr → List Adj
  | .adj l _ => l
  | _ => []
/-! halter/soft.Add, by hand -/
def soft_Add.f (a0 : Int) (a1 : Int) : Option Int := YtkaehhfdjenmcaaF.soft_Add.f a0 a1
def soft_Add.R (r : Int) : Tm := .v (.one (.sc (.int .u64 r)))
theorem soft_Add.fun_ {a0 a1 r : Int} (h : soft_Add.f a0 a1 = some r) : Fun cfg 16 [.one (.sc (.int .u64 a0)), .one (.sc (.int .u64 a1))] [] (soft_Add.R r) [] := by
  refine Fun.of_below (f := 16) (fn := Try.f16) Try.func16 rfl (by kernel_rfl) (r := .int .u64 r) (fun X => ⟨⟨rfl, rfl⟩, rfl⟩) fun X vs hE hvs hG => ?_
  obtain ⟨v0, us0, rfl, hv0, v1, us1, rfl, hv1, rfl⟩ := hvs
  have hv0 : v0 = .int .u64 a0 := hv0.1.1
  have hv1 : v1 = .int .u64 a1 := hv1.1.1
  rw [hv0, hv1]
  exact YtkaehhfdjenmcaaF.soft_Add.calls a0 a1 r X.w h
/-! halter/soft.Sub, by hand -/
def soft_Sub.f (a0 : Int) (a1 : Int) : Option Int := YtkaehhfdjenmcaaF.soft_Sub.f a0 a1
def soft_Sub.R (r : Int) : Tm := .v (.one (.sc (.int .u64 r)))
theorem soft_Sub.fun_ {a0 a1 r : Int} (h : soft_Sub.f a0 a1 = some r) : Fun cfg 18 [.one (.sc (.int .u64 a0)), .one (.sc (.int .u64 a1))] [] (soft_Sub.R r) [] := by
  refine Fun.of_below (f := 18) (fn := Try.f18) Try.func18 rfl (by kernel_rfl) (r := .int .u64 r) (fun X => ⟨⟨rfl, rfl⟩, rfl⟩) fun X vs hE hvs hG => ?_
  obtain ⟨v0, us0, rfl, hv0, v1, us1, rfl, hv1, rfl⟩ := hvs
  have hv0 : v0 = .int .u64 a0 := hv0.1.1
  have hv1 : v1 = .int .u64 a1 := hv1.1.1
  rw [hv0, hv1]
  exact YtkaehhfdjenmcaaF.soft_Sub.calls a0 a1 r X.w h
/-! halter/soft.Mul, by hand -/
def soft_Mul.f (a0 : Int) (a1 : Int) : Option Int := YtkaehhfdjenmcaaF.soft_Mul.f a0 a1
def soft_Mul.R (r : Int) : Tm := .v (.one (.sc (.int .u64 r)))
theorem soft_Mul.fun_ {a0 a1 r : Int} (h : soft_Mul.f a0 a1 = some r) : Fun cfg 9 [.one (.sc (.int .u64 a0)), .one (.sc (.int .u64 a1))] [] (soft_Mul.R r) [] := by
  refine Fun.of_below (f := 9) (fn := Try.f9) Try.func9 rfl (by kernel_rfl) (r := .int .u64 r) (fun X => ⟨⟨rfl, rfl⟩, rfl⟩) fun X vs hE hvs hG => ?_
  obtain ⟨v0, us0, rfl, hv0, v1, us1, rfl, hv1, rfl⟩ := hvs
  have hv0 : v0 = .int .u64 a0 := hv0.1.1
  have hv1 : v1 = .int .u64 a1 := hv1.1.1
  rw [hv0, hv1]
  exact YtkaehhfdjenmcaaF.soft_Mul.calls a0 a1 r X.w h
/-! halter/soft.Div, by hand -/
def soft_Div.f (a0 : Int) (a1 : Int) : Option Int := YtkaehhfdjenmcaaF.soft_Div.f a0 a1
def soft_Div.R (r : Int) : Tm := .v (.one (.sc (.int .u64 r)))
theorem soft_Div.fun_ {a0 a1 r : Int} (h : soft_Div.f a0 a1 = some r) : Fun cfg 11 [.one (.sc (.int .u64 a0)), .one (.sc (.int .u64 a1))] [] (soft_Div.R r) [] := by
  refine Fun.of_below (f := 11) (fn := Try.f11) Try.func11 rfl (by kernel_rfl) (r := .int .u64 r) (fun X => ⟨⟨rfl, rfl⟩, rfl⟩) fun X vs hE hvs hG => ?_
  obtain ⟨v0, us0, rfl, hv0, v1, us1, rfl, hv1, rfl⟩ := hvs
  have hv0 : v0 = .int .u64 a0 := hv0.1.1
  have hv1 : v1 = .int .u64 a1 := hv1.1.1
  rw [hv0, hv1]
  exact YtkaehhfdjenmcaaF.soft_Div.calls a0 a1 r X.w h
/-! halter/soft.Cmp, by hand -/
def soft_Cmp.f (a0 : Int) (a1 : Int) : Option Int := YtkaehhfdjenmcaaF.soft_Cmp.f a0 a1
def soft_Cmp.R (r : Int) : Tm := .v (.one (.sc (.int .i64 r)))
theorem soft_Cmp.fun_ {a0 a1 r : Int} (h : soft_Cmp.f a0 a1 = some r) : Fun cfg 24 [.one (.sc (.int .u64 a0)), .one (.sc (.int .u64 a1))] [] (soft_Cmp.R r) [] := by
  refine Fun.of_below (f := 24) (fn := Try.f24) Try.func24 rfl (by kernel_rfl) (r := .int .i64 r) (fun X => ⟨⟨rfl, rfl⟩, rfl⟩) fun X vs hE hvs hG => ?_
  obtain ⟨v0, us0, rfl, hv0, v1, us1, rfl, hv1, rfl⟩ := hvs
  have hv0 : v0 = .int .u64 a0 := hv0.1.1
  have hv1 : v1 = .int .u64 a1 := hv1.1.1
  rw [hv0, hv1]
  exact YtkaehhfdjenmcaaF.soft_Cmp.calls a0 a1 r X.w h
/-! halter/soft.Sqrt, by hand -/
def soft_Sqrt.f (a0 : Int) : Option Int := YtkaehhfdjenmcaaF.soft_Sqrt.f a0
def soft_Sqrt.R (r : Int) : Tm := .v (.one (.sc (.int .u64 r)))
theorem soft_Sqrt.fun_ {a0 r : Int} (h : soft_Sqrt.f a0 = some r) : Fun cfg 13 [.one (.sc (.int .u64 a0))] [] (soft_Sqrt.R r) [] := by
  refine Fun.of_below (f := 13) (fn := Try.f13) Try.func13 rfl (by kernel_rfl) (r := .int .u64 r) (fun X => ⟨⟨rfl, rfl⟩, rfl⟩) fun X vs hE hvs hG => ?_
  obtain ⟨v0, us0, rfl, hv0, rfl⟩ := hvs
  have hv0 : v0 = .int .u64 a0 := hv0.1.1
  rw [hv0]
  exact YtkaehhfdjenmcaaF.soft_Sqrt.calls a0 r X.w h
/-! halter/soft.Min, by hand -/
def soft_Min.f (a0 : Int) (a1 : Int) : Option Int := YtkaehhfdjenmcaaF.soft_Min.f a0 a1
def soft_Min.R (r : Int) : Tm := .v (.one (.sc (.int .u64 r)))
theorem soft_Min.fun_ {a0 a1 r : Int} (h : soft_Min.f a0 a1 = some r) : Fun cfg 28 [.one (.sc (.int .u64 a0)), .one (.sc (.int .u64 a1))] [] (soft_Min.R r) [] := by
  refine Fun.of_below (f := 28) (fn := Try.f28) Try.func28 rfl (by kernel_rfl) (r := .int .u64 r) (fun X => ⟨⟨rfl, rfl⟩, rfl⟩) fun X vs hE hvs hG => ?_
  obtain ⟨v0, us0, rfl, hv0, v1, us1, rfl, hv1, rfl⟩ := hvs
  have hv0 : v0 = .int .u64 a0 := hv0.1.1
  have hv1 : v1 = .int .u64 a1 := hv1.1.1
  rw [hv0, hv1]
  exact YtkaehhfdjenmcaaF.soft_Min.calls a0 a1 r X.w h
/-! halter/soft.Max, by hand -/
def soft_Max.f (a0 : Int) (a1 : Int) : Option Int := YtkaehhfdjenmcaaF.soft_Max.f a0 a1
def soft_Max.R (r : Int) : Tm := .v (.one (.sc (.int .u64 r)))
theorem soft_Max.fun_ {a0 a1 r : Int} (h : soft_Max.f a0 a1 = some r) : Fun cfg 30 [.one (.sc (.int .u64 a0)), .one (.sc (.int .u64 a1))] [] (soft_Max.R r) [] := by
  refine Fun.of_below (f := 30) (fn := Try.f30) Try.func30 rfl (by kernel_rfl) (r := .int .u64 r) (fun X => ⟨⟨rfl, rfl⟩, rfl⟩) fun X vs hE hvs hG => ?_
  obtain ⟨v0, us0, rfl, hv0, v1, us1, rfl, hv1, rfl⟩ := hvs
  have hv0 : v0 = .int .u64 a0 := hv0.1.1
  have hv1 : v1 = .int .u64 a1 := hv1.1.1
  rw [hv0, hv1]
  exact YtkaehhfdjenmcaaF.soft_Max.calls a0 a1 r X.w h
/-! halter/soft.FromInt, by hand -/
def soft_FromInt.f (a0 : Int) : Option Int := YtkaehhfdjenmcaaF.soft_FromInt.f a0
def soft_FromInt.R (r : Int) : Tm := .v (.one (.sc (.int .u64 r)))
theorem soft_FromInt.fun_ {a0 r : Int} (h : soft_FromInt.f a0 = some r) : Fun cfg 23 [.one (.sc (.int .u32 a0))] [] (soft_FromInt.R r) [] := by
  refine Fun.of_below (f := 23) (fn := Try.f23) Try.func23 rfl (by kernel_rfl) (r := .int .u64 r) (fun X => ⟨⟨rfl, rfl⟩, rfl⟩) fun X vs hE hvs hG => ?_
  obtain ⟨v0, us0, rfl, hv0, rfl⟩ := hvs
  have hv0 : v0 = .int .u32 a0 := hv0.1.1
  rw [hv0]
  exact YtkaehhfdjenmcaaF.soft_FromInt.calls a0 r X.w h
/-! halter/soft.ToInt, by hand -/
def soft_ToInt.f (a0 : Int) : Option Int := YtkaehhfdjenmcaaF.soft_ToInt.f a0
def soft_ToInt.R (r : Int) : Tm := .v (.one (.sc (.int .u32 r)))
theorem soft_ToInt.fun_ {a0 r : Int} (h : soft_ToInt.f a0 = some r) : Fun cfg 25 [.one (.sc (.int .u64 a0))] [] (soft_ToInt.R r) [] := by
  refine Fun.of_below (f := 25) (fn := Try.f25) Try.func25 rfl (by kernel_rfl) (r := .int .u32 r) (fun X => ⟨⟨rfl, rfl⟩, rfl⟩) fun X vs hE hvs hG => ?_
  obtain ⟨v0, us0, rfl, hv0, rfl⟩ := hvs
  have hv0 : v0 = .int .u64 a0 := hv0.1.1
  rw [hv0]
  exact YtkaehhfdjenmcaaF.soft_ToInt.calls a0 r X.w h
/-! halter/soft.Class -/
def soft_Class.f (a0 : Int) : Option Int :=
  if (bits .and .u64 (shr .u64 a0 (52 : Int)) (2047 : Int)) = (0 : Int) then
    if (bits .and .u64 a0 (4503599627370495 : Int)) = (0 : Int) then
      some (0 : Int)
    else
      some (1 : Int)
  else
    if (bits .and .u64 (shr .u64 a0 (52 : Int)) (2047 : Int)) < (2047 : Int) then
      some (2 : Int)
    else
      if (bits .and .u64 a0 (4503599627370495 : Int)) = (0 : Int) then
        some (3 : Int)
      else
        some (4 : Int)
def soft_Class.R (r : Int) : Tm := .v (.one (.sc (.int .i64 r)))
theorem soft_Class.fun_ {a0 : Int} {r : Int} (h : soft_Class.f a0 = some r) : Fun cfg 20 [.one (.sc (.int .u64 a0))] [] (soft_Class.R r) [] := by
  unfold soft_Class.f at h
  refine fun_of_run cfg_ok (f := 20) (fn := Try.f20) Try.func20 rfl (by kernel_rfl) (rs := [.tmp 2]) rfl (nt := 26) rfl (l := fin) (k := (.br (.one true (.one true (.br (.adj [] (.adj [] (.adj [] .nil))) (.one true (.adj [] (.adj [] (.adj [] .nil))))))) (.one false (.one false (.one false (.one false (.br (.adj [] (.adj [] (.adj [] .nil))) (.br (.adj [] (.adj [] (.adj [] .nil))) (.adj [] (.adj [] (.adj [] (.adj [] .nil)))))))))))) (to_goal (q := (0 ≤ (52 : Int)) ∧ (True) ∧ (True) ∧ (True) ∧ ((((bits .and .u64 (shr .u64 a0 (52 : Int)) (2047 : Int)) == (0 : Int)) = true → (((bits .and .u64 (shr .u64 a0 (52 : Int)) (2047 : Int)) == (0 : Int)) = true ∧ (True) ∧ (((bits .and .u64 (shr .u64 a0 (52 : Int)) (2047 : Int)) == (0 : Int)) = true ∧ ((((bits .and .u64 a0 (4503599627370495 : Int)) == (0 : Int)) = true → (True ∧ (True ∧ ((True) ∧ (True) ∧ (.v (.one (.sc (.int .i64 (0 : Int)))) : Tm) = soft_Class.R r ∧ ([] : List Box) = [])))) ∧ (((bits .and .u64 a0 (4503599627370495 : Int)) == (0 : Int)) = false → (True) ∧ (((bits .and .u64 (shr .u64 a0 (52 : Int)) (2047 : Int)) == (0 : Int)) = true ∧ (True ∧ (True ∧ ((True) ∧ (True) ∧ (.v (.one (.sc (.int .i64 (1 : Int)))) : Tm) = soft_Class.R r ∧ ([] : List Box) = []))))))))) ∧ (((bits .and .u64 (shr .u64 a0 (52 : Int)) (2047 : Int)) == (0 : Int)) = false → (((bits .and .u64 (shr .u64 a0 (52 : Int)) (2047 : Int)) == (0 : Int)) = false ∧ (((bits .and .u64 (shr .u64 a0 (52 : Int)) (2047 : Int)) == (0 : Int)) = false ∧ (false = false ∧ (True) ∧ (((bits .and .u64 (shr .u64 a0 (52 : Int)) (2047 : Int)) == (0 : Int)) = false ∧ (True) ∧ (((decide ((bits .and .u64 (shr .u64 a0 (52 : Int)) (2047 : Int)) < (2047 : Int))) = true → (True ∧ (True ∧ ((True) ∧ (True) ∧ (.v (.one (.sc (.int .i64 (2 : Int)))) : Tm) = soft_Class.R r ∧ ([] : List Box) = [])))) ∧ ((decide ((bits .and .u64 (shr .u64 a0 (52 : Int)) (2047 : Int)) < (2047 : Int))) = false → (True) ∧ ((((bits .and .u64 a0 (4503599627370495 : Int)) == (0 : Int)) = true → (True ∧ (True ∧ ((True) ∧ (True) ∧ (.v (.one (.sc (.int .i64 (3 : Int)))) : Tm) = soft_Class.R r ∧ ([] : List Box) = [])))) ∧ (((bits .and .u64 a0 (4503599627370495 : Int)) == (0 : Int)) = false → (True ∧ (True ∧ (True ∧ ((True) ∧ (True) ∧ (.v (.one (.sc (.int .i64 (4 : Int)))) : Tm) = soft_Class.R r ∧ ([] : List Box) = []))))))))))))))) (by kernel_rfl) ?_)
  refine ⟨(by decide), ?_⟩
  refine ⟨trivial, ?_⟩
  refine ⟨trivial, ?_⟩
  refine ⟨trivial, ?_⟩
  refine ⟨fun b1 => ?_, fun b1 => ?_⟩
  · rw [if_pos (beq_t b1)] at h
    refine ⟨b1, ?_⟩
    refine ⟨trivial, ?_⟩
    refine ⟨b1, ?_⟩
    refine ⟨fun b2 => ?_, fun b2 => ?_⟩
    · rw [if_pos (beq_t b2)] at h
      refine ⟨trivial, ?_⟩
      refine ⟨trivial, ?_⟩
      obtain rfl := Option.some.inj h
      exact ⟨trivial, trivial, rfl, rfl⟩
    · rw [if_neg (beq_f b2)] at h
      refine ⟨trivial, ?_⟩
      refine ⟨b1, ?_⟩
      refine ⟨trivial, ?_⟩
      refine ⟨trivial, ?_⟩
      obtain rfl := Option.some.inj h
      exact ⟨trivial, trivial, rfl, rfl⟩
  · rw [if_neg (beq_f b1)] at h
    refine ⟨b1, ?_⟩
    refine ⟨b1, ?_⟩
    refine ⟨rfl, ?_⟩
    refine ⟨trivial, ?_⟩
    refine ⟨b1, ?_⟩
    refine ⟨trivial, ?_⟩
    refine ⟨fun b3 => ?_, fun b3 => ?_⟩
    · rw [if_pos (of_decide_eq_true b3)] at h
      refine ⟨trivial, ?_⟩
      refine ⟨trivial, ?_⟩
      obtain rfl := Option.some.inj h
      exact ⟨trivial, trivial, rfl, rfl⟩
    · rw [if_neg (of_decide_eq_false b3)] at h
      refine ⟨trivial, ?_⟩
      refine ⟨fun b4 => ?_, fun b4 => ?_⟩
      · rw [if_pos (beq_t b4)] at h
        refine ⟨trivial, ?_⟩
        refine ⟨trivial, ?_⟩
        obtain rfl := Option.some.inj h
        exact ⟨trivial, trivial, rfl, rfl⟩
      · rw [if_neg (beq_f b4)] at h
        refine ⟨trivial, ?_⟩
        refine ⟨trivial, ?_⟩
        refine ⟨trivial, ?_⟩
        obtain rfl := Option.some.inj h
        exact ⟨trivial, trivial, rfl, rfl⟩
/-! halter/halterlaw02.sure -/
def halterlaw02_sure.f : Option Bool :=
  (soft_Add.f (4607182418800017408 : Int) (4607182418800017408 : Int)).bind fun t1 =>
  if t1 = (4611686018427387904 : Int) then
    (soft_Div.f (4607182418800017408 : Int) (0 : Int)).bind fun t3 =>
    if t3 = (9218868437227405312 : Int) then
      (soft_Sqrt.f (9223372036854775808 : Int)).bind fun t5 =>
      if t5 = (9223372036854775808 : Int) then
        (soft_Cmp.f (4607182418800017408 : Int) (4611686018427387904 : Int)).bind fun t7 =>
        if t7 = (-1 : Int) then
          (soft_ToInt.f (4611686018427387904 : Int)).bind fun t9 =>
          if t9 = (2 : Int) then
            (soft_FromInt.f (4294967295 : Int)).bind fun t11 =>
            if t11 = (13830554455654793216 : Int) then
              (soft_Class.f (1 : Int)).bind fun t13 =>
              if t13 = (1 : Int) then
                (soft_Mul.f (4611686018427387904 : Int) (4611686018427387904 : Int)).bind fun t15 =>
                some (t15 == (4616189618054758400 : Int))
              else
                some false
            else
              some false
          else
            some false
        else
          some false
      else
        some false
    else
      some false
  else
    some false
def halterlaw02_sure.R (r : Bool) : Tm := .v (.one (.sc (.bool r)))
theorem halterlaw02_sure.fun_ {r : Bool} (h : halterlaw02_sure.f = some r) : Fun cfg 15 [] [] (halterlaw02_sure.R r) [] := by
  unfold halterlaw02_sure.f at h
  refine fun_of_run cfg_ok (f := 15) (fn := Try.f15) Try.func15 rfl (by kernel_rfl) (rs := [.tmp 0]) rfl (nt := 31) rfl (l := fin) (k := (.call true [] (Int) (fun t1 => soft_Add.R t1) (fun t1 => (.br (.call true [] (Int) (fun t3 => soft_Div.R t3) (fun t3 => (.one true (.one true (.br (.call true [] (Int) (fun t5 => soft_Sqrt.R t5) (fun t5 => (.one true (.one true (.br (.call true [] (Int) (fun t7 => soft_Cmp.R t7) (fun t7 => (.one true (.one true (.br (.call true [] (Int) (fun t9 => soft_ToInt.R t9) (fun t9 => (.one true (.one true (.br (.call true [] (Int) (fun t11 => soft_FromInt.R t11) (fun t11 => (.one true (.one true (.br (.call true [] (Int) (fun t13 => soft_Class.R t13) (fun t13 => (.one true (.one true (.br (.call true [] (Int) (fun t15 => soft_Mul.R t15) (fun t15 => (.one true (.one true (.adj [] (.adj [] .nil)))))) (.one false (.one false (.adj [] (.adj [] .nil))))))))) (.one false (.one false (.one false (.one false (.one false (.adj [] (.adj [] .nil)))))))))))) (.one false (.one false (.one false (.one false (.one false (.one false (.one false (.one false (.adj [] (.adj [] .nil))))))))))))))) (.one false (.one false (.one false (.one false (.one false (.one false (.one false (.one false (.one false (.one false (.one false (.adj [] (.adj [] .nil)))))))))))))))))) (.one false (.one false (.one false (.one false (.one false (.one false (.one false (.one false (.one false (.one false (.one false (.one false (.one false (.one false (.adj [] (.adj [] .nil))))))))))))))))))))) (.one false (.one false (.one false (.one false (.one false (.one false (.one false (.one false (.one false (.one false (.one false (.one false (.one false (.one false (.one false (.one false (.one false (.adj [] (.adj [] .nil)))))))))))))))))))))))) (.one false (.one false (.one false (.one false (.one false (.one false (.one false (.one false (.one false (.one false (.one false (.one false (.one false (.one false (.one false (.one false (.one false (.one false (.one false (.one false (.adj [] (.adj [] .nil)))))))))))))))))))))))))) (to_goal (q := (∃ t1 : Int, (Fun cfg 16 [.one (.sc (.int .u64 (4607182418800017408 : Int))), .one (.sc (.int .u64 (4607182418800017408 : Int)))] [] (soft_Add.R t1) [] ∧ True) ∧ (True) ∧ (((t1 == (4611686018427387904 : Int)) = true → (∃ t3 : Int, (Fun cfg 11 [.one (.sc (.int .u64 (4607182418800017408 : Int))), .one (.sc (.int .u64 (0 : Int)))] [] (soft_Div.R t3) [] ∧ True) ∧ ((t1 == (4611686018427387904 : Int)) = true ∧ (True) ∧ ((t1 == (4611686018427387904 : Int)) = true ∧ (((t3 == (9218868437227405312 : Int)) = true → (∃ t5 : Int, (Fun cfg 13 [.one (.sc (.int .u64 (9223372036854775808 : Int)))] [] (soft_Sqrt.R t5) [] ∧ True) ∧ ((t3 == (9218868437227405312 : Int)) = true ∧ (True) ∧ ((t3 == (9218868437227405312 : Int)) = true ∧ (((t5 == (9223372036854775808 : Int)) = true → (∃ t7 : Int, (Fun cfg 24 [.one (.sc (.int .u64 (4607182418800017408 : Int))), .one (.sc (.int .u64 (4611686018427387904 : Int)))] [] (soft_Cmp.R t7) [] ∧ True) ∧ ((t5 == (9223372036854775808 : Int)) = true ∧ (True) ∧ ((t5 == (9223372036854775808 : Int)) = true ∧ (((t7 == (-1 : Int)) = true → (∃ t9 : Int, (Fun cfg 25 [.one (.sc (.int .u64 (4611686018427387904 : Int)))] [] (soft_ToInt.R t9) [] ∧ True) ∧ ((t7 == (-1 : Int)) = true ∧ (True) ∧ ((t7 == (-1 : Int)) = true ∧ (((t9 == (2 : Int)) = true → (∃ t11 : Int, (Fun cfg 23 [.one (.sc (.int .u32 (4294967295 : Int)))] [] (soft_FromInt.R t11) [] ∧ True) ∧ ((t9 == (2 : Int)) = true ∧ (True) ∧ ((t9 == (2 : Int)) = true ∧ (((t11 == (13830554455654793216 : Int)) = true → (∃ t13 : Int, (Fun cfg 20 [.one (.sc (.int .u64 (1 : Int)))] [] (soft_Class.R t13) [] ∧ True) ∧ ((t11 == (13830554455654793216 : Int)) = true ∧ (True) ∧ ((t11 == (13830554455654793216 : Int)) = true ∧ (((t13 == (1 : Int)) = true → (∃ t15 : Int, (Fun cfg 9 [.one (.sc (.int .u64 (4611686018427387904 : Int))), .one (.sc (.int .u64 (4611686018427387904 : Int)))] [] (soft_Mul.R t15) [] ∧ True) ∧ ((t13 == (1 : Int)) = true ∧ (True) ∧ ((t13 == (1 : Int)) = true ∧ (True ∧ ((True) ∧ (True) ∧ (.v (.one (.sc (.bool (t15 == (4616189618054758400 : Int))))) : Tm) = halterlaw02_sure.R r ∧ ([] : List Box) = [])))))) ∧ ((t13 == (1 : Int)) = false → ((t13 == (1 : Int)) = false ∧ ((t13 == (1 : Int)) = false ∧ (True ∧ ((True) ∧ (True) ∧ (.v (.one (.sc (.bool false))) : Tm) = halterlaw02_sure.R r ∧ ([] : List Box) = [])))))))))) ∧ ((t11 == (13830554455654793216 : Int)) = false → ((t11 == (13830554455654793216 : Int)) = false ∧ ((t11 == (13830554455654793216 : Int)) = false ∧ (false = false ∧ (false = false ∧ (false = false ∧ (True ∧ ((True) ∧ (True) ∧ (.v (.one (.sc (.bool false))) : Tm) = halterlaw02_sure.R r ∧ ([] : List Box) = []))))))))))))) ∧ ((t9 == (2 : Int)) = false → ((t9 == (2 : Int)) = false ∧ ((t9 == (2 : Int)) = false ∧ (false = false ∧ (false = false ∧ (false = false ∧ (false = false ∧ (false = false ∧ (false = false ∧ (True ∧ ((True) ∧ (True) ∧ (.v (.one (.sc (.bool false))) : Tm) = halterlaw02_sure.R r ∧ ([] : List Box) = [])))))))))))))))) ∧ ((t7 == (-1 : Int)) = false → ((t7 == (-1 : Int)) = false ∧ ((t7 == (-1 : Int)) = false ∧ (false = false ∧ (false = false ∧ (false = false ∧ (false = false ∧ (false = false ∧ (false = false ∧ (false = false ∧ (false = false ∧ (false = false ∧ (True ∧ ((True) ∧ (True) ∧ (.v (.one (.sc (.bool false))) : Tm) = halterlaw02_sure.R r ∧ ([] : List Box) = []))))))))))))))))))) ∧ ((t5 == (9223372036854775808 : Int)) = false → ((t5 == (9223372036854775808 : Int)) = false ∧ ((t5 == (9223372036854775808 : Int)) = false ∧ (false = false ∧ (false = false ∧ (false = false ∧ (false = false ∧ (false = false ∧ (false = false ∧ (false = false ∧ (false = false ∧ (false = false ∧ (false = false ∧ (false = false ∧ (false = false ∧ (True ∧ ((True) ∧ (True) ∧ (.v (.one (.sc (.bool false))) : Tm) = halterlaw02_sure.R r ∧ ([] : List Box) = [])))))))))))))))))))))) ∧ ((t3 == (9218868437227405312 : Int)) = false → ((t3 == (9218868437227405312 : Int)) = false ∧ ((t3 == (9218868437227405312 : Int)) = false ∧ (false = false ∧ (false = false ∧ (false = false ∧ (false = false ∧ (false = false ∧ (false = false ∧ (false = false ∧ (false = false ∧ (false = false ∧ (false = false ∧ (false = false ∧ (false = false ∧ (false = false ∧ (false = false ∧ (false = false ∧ (True ∧ ((True) ∧ (True) ∧ (.v (.one (.sc (.bool false))) : Tm) = halterlaw02_sure.R r ∧ ([] : List Box) = []))))))))))))))))))))))))) ∧ ((t1 == (4611686018427387904 : Int)) = false → ((t1 == (4611686018427387904 : Int)) = false ∧ ((t1 == (4611686018427387904 : Int)) = false ∧ (false = false ∧ (false = false ∧ (false = false ∧ (false = false ∧ (false = false ∧ (false = false ∧ (false = false ∧ (false = false ∧ (false = false ∧ (false = false ∧ (false = false ∧ (false = false ∧ (false = false ∧ (false = false ∧ (false = false ∧ (false = false ∧ (false = false ∧ (false = false ∧ (True ∧ ((True) ∧ (True) ∧ (.v (.one (.sc (.bool false))) : Tm) = halterlaw02_sure.R r ∧ ([] : List Box) = [])))))))))))))))))))))))))) (by kernel_rfl) ?_)
  obtain ⟨t1, ht1, h⟩ := of_bind h
  refine ⟨t1, ⟨soft_Add.fun_ ht1, trivial⟩, ?_⟩
  refine ⟨trivial, ?_⟩
  refine ⟨fun b2 => ?_, fun b2 => ?_⟩
  · rw [if_pos (beq_t b2)] at h
    obtain ⟨t3, ht3, h⟩ := of_bind h
    refine ⟨t3, ⟨soft_Div.fun_ ht3, trivial⟩, ?_⟩
    refine ⟨b2, ?_⟩
    refine ⟨trivial, ?_⟩
    refine ⟨b2, ?_⟩
    refine ⟨fun b4 => ?_, fun b4 => ?_⟩
    · rw [if_pos (beq_t b4)] at h
      obtain ⟨t5, ht5, h⟩ := of_bind h
      refine ⟨t5, ⟨soft_Sqrt.fun_ ht5, trivial⟩, ?_⟩
      refine ⟨b4, ?_⟩
      refine ⟨trivial, ?_⟩
      refine ⟨b4, ?_⟩
      refine ⟨fun b6 => ?_, fun b6 => ?_⟩
      · rw [if_pos (beq_t b6)] at h
        obtain ⟨t7, ht7, h⟩ := of_bind h
        refine ⟨t7, ⟨soft_Cmp.fun_ ht7, trivial⟩, ?_⟩
        refine ⟨b6, ?_⟩
        refine ⟨trivial, ?_⟩
        refine ⟨b6, ?_⟩
        refine ⟨fun b8 => ?_, fun b8 => ?_⟩
        · rw [if_pos (beq_t b8)] at h
          obtain ⟨t9, ht9, h⟩ := of_bind h
          refine ⟨t9, ⟨soft_ToInt.fun_ ht9, trivial⟩, ?_⟩
          refine ⟨b8, ?_⟩
          refine ⟨trivial, ?_⟩
          refine ⟨b8, ?_⟩
          refine ⟨fun b10 => ?_, fun b10 => ?_⟩
          · rw [if_pos (beq_t b10)] at h
            obtain ⟨t11, ht11, h⟩ := of_bind h
            refine ⟨t11, ⟨soft_FromInt.fun_ ht11, trivial⟩, ?_⟩
            refine ⟨b10, ?_⟩
            refine ⟨trivial, ?_⟩
            refine ⟨b10, ?_⟩
            refine ⟨fun b12 => ?_, fun b12 => ?_⟩
            · rw [if_pos (beq_t b12)] at h
              obtain ⟨t13, ht13, h⟩ := of_bind h
              refine ⟨t13, ⟨soft_Class.fun_ ht13, trivial⟩, ?_⟩
              refine ⟨b12, ?_⟩
              refine ⟨trivial, ?_⟩
              refine ⟨b12, ?_⟩
              refine ⟨fun b14 => ?_, fun b14 => ?_⟩
              · rw [if_pos (beq_t b14)] at h
                obtain ⟨t15, ht15, h⟩ := of_bind h
                refine ⟨t15, ⟨soft_Mul.fun_ ht15, trivial⟩, ?_⟩
                refine ⟨b14, ?_⟩
                refine ⟨trivial, ?_⟩
                refine ⟨b14, ?_⟩
                refine ⟨trivial, ?_⟩
                obtain rfl := Option.some.inj h
                exact ⟨trivial, trivial, rfl, rfl⟩
              · rw [if_neg (beq_f b14)] at h
                refine ⟨b14, ?_⟩
                refine ⟨b14, ?_⟩
                refine ⟨trivial, ?_⟩
                obtain rfl := Option.some.inj h
                exact ⟨trivial, trivial, rfl, rfl⟩
            · rw [if_neg (beq_f b12)] at h
              refine ⟨b12, ?_⟩
              refine ⟨b12, ?_⟩
              refine ⟨rfl, ?_⟩
              refine ⟨rfl, ?_⟩
              refine ⟨rfl, ?_⟩
              refine ⟨trivial, ?_⟩
              obtain rfl := Option.some.inj h
              exact ⟨trivial, trivial, rfl, rfl⟩
          · rw [if_neg (beq_f b10)] at h
            refine ⟨b10, ?_⟩
            refine ⟨b10, ?_⟩
            refine ⟨rfl, ?_⟩
            refine ⟨rfl, ?_⟩
            refine ⟨rfl, ?_⟩
            refine ⟨rfl, ?_⟩
            refine ⟨rfl, ?_⟩
            refine ⟨rfl, ?_⟩
            refine ⟨trivial, ?_⟩
            obtain rfl := Option.some.inj h
            exact ⟨trivial, trivial, rfl, rfl⟩
        · rw [if_neg (beq_f b8)] at h
          refine ⟨b8, ?_⟩
          refine ⟨b8, ?_⟩
          refine ⟨rfl, ?_⟩
          refine ⟨rfl, ?_⟩
          refine ⟨rfl, ?_⟩
          refine ⟨rfl, ?_⟩
          refine ⟨rfl, ?_⟩
          refine ⟨rfl, ?_⟩
          refine ⟨rfl, ?_⟩
          refine ⟨rfl, ?_⟩
          refine ⟨rfl, ?_⟩
          refine ⟨trivial, ?_⟩
          obtain rfl := Option.some.inj h
          exact ⟨trivial, trivial, rfl, rfl⟩
      · rw [if_neg (beq_f b6)] at h
        refine ⟨b6, ?_⟩
        refine ⟨b6, ?_⟩
        refine ⟨rfl, ?_⟩
        refine ⟨rfl, ?_⟩
        refine ⟨rfl, ?_⟩
        refine ⟨rfl, ?_⟩
        refine ⟨rfl, ?_⟩
        refine ⟨rfl, ?_⟩
        refine ⟨rfl, ?_⟩
        refine ⟨rfl, ?_⟩
        refine ⟨rfl, ?_⟩
        refine ⟨rfl, ?_⟩
        refine ⟨rfl, ?_⟩
        refine ⟨rfl, ?_⟩
        refine ⟨trivial, ?_⟩
        obtain rfl := Option.some.inj h
        exact ⟨trivial, trivial, rfl, rfl⟩
    · rw [if_neg (beq_f b4)] at h
      refine ⟨b4, ?_⟩
      refine ⟨b4, ?_⟩
      refine ⟨rfl, ?_⟩
      refine ⟨rfl, ?_⟩
      refine ⟨rfl, ?_⟩
      refine ⟨rfl, ?_⟩
      refine ⟨rfl, ?_⟩
      refine ⟨rfl, ?_⟩
      refine ⟨rfl, ?_⟩
      refine ⟨rfl, ?_⟩
      refine ⟨rfl, ?_⟩
      refine ⟨rfl, ?_⟩
      refine ⟨rfl, ?_⟩
      refine ⟨rfl, ?_⟩
      refine ⟨rfl, ?_⟩
      refine ⟨rfl, ?_⟩
      refine ⟨rfl, ?_⟩
      refine ⟨trivial, ?_⟩
      obtain rfl := Option.some.inj h
      exact ⟨trivial, trivial, rfl, rfl⟩
  · rw [if_neg (beq_f b2)] at h
    refine ⟨b2, ?_⟩
    refine ⟨b2, ?_⟩
    refine ⟨rfl, ?_⟩
    refine ⟨rfl, ?_⟩
    refine ⟨rfl, ?_⟩
    refine ⟨rfl, ?_⟩
    refine ⟨rfl, ?_⟩
    refine ⟨rfl, ?_⟩
    refine ⟨rfl, ?_⟩
    refine ⟨rfl, ?_⟩
    refine ⟨rfl, ?_⟩
    refine ⟨rfl, ?_⟩
    refine ⟨rfl, ?_⟩
    refine ⟨rfl, ?_⟩
    refine ⟨rfl, ?_⟩
    refine ⟨rfl, ?_⟩
    refine ⟨rfl, ?_⟩
    refine ⟨rfl, ?_⟩
    refine ⟨rfl, ?_⟩
    refine ⟨rfl, ?_⟩
    refine ⟨trivial, ?_⟩
    obtain rfl := Option.some.inj h
    exact ⟨trivial, trivial, rfl, rfl⟩
/-! halter/halterlaw02.SoftEdges -/
def halterlaw02_SoftEdges.f (a0 : Int) (a1 : Bool) : Option Bool :=
  if a1 = true then
    (soft_Mul.f (9223372036854775808 : Int) (18442240474082181120 : Int)).bind fun t2 =>
    if ¬ t2 = (9221120237041090560 : Int) then
      some false
    else
      (soft_Sub.f (18442240474082181120 : Int) (18442240474082181120 : Int)).bind fun t4 =>
      if ¬ t4 = (9221120237041090560 : Int) then
        some false
      else
        (soft_Div.f (9223372036854775808 : Int) (9223372036854775808 : Int)).bind fun t6 =>
        if ¬ t6 = (9221120237041090560 : Int) then
          some false
        else
          (soft_Div.f (18442240474082181120 : Int) (18442240474082181120 : Int)).bind fun t8 =>
          if ¬ t8 = (9221120237041090560 : Int) then
            some false
          else
            (soft_Sqrt.f (9223372036854775808 : Int)).bind fun t10 =>
            if ¬ t10 = (9223372036854775808 : Int) then
              some false
            else
              (soft_Sqrt.f (18442240474082181120 : Int)).bind fun t12 =>
              if ¬ ((t12 == (9221120237041090560 : Int)) = a1) then
                some false
              else
                (soft_Class.f a0).bind fun t14 =>
                if t14 = (4 : Int) then
                  halterlaw02_sure.f.bind fun t16 =>
                  some t16
                else
                  if t14 = (3 : Int) then
                    halterlaw02_sure.f.bind fun t18 =>
                    some t18
                  else
                    if t14 = (0 : Int) then
                      (soft_Add.f a0 (18442240474082181120 : Int)).bind fun t20 =>
                      if t20 = (18442240474082181120 : Int) then
                        (soft_Cmp.f a0 (9223372036854775808 : Int)).bind fun t22 =>
                        if t22 = (0 : Int) then
                          halterlaw02_sure.f.bind fun t24 =>
                          some t24
                        else
                          some false
                      else
                        some false
                    else
                      if ¬ (((shr .u64 a0 (63 : Int)) == (1 : Int)) = a1) then
                        (soft_Div.f a0 (9223372036854775808 : Int)).bind fun t26 =>
                        if t26 = (18442240474082181120 : Int) then
                          (soft_Mul.f a0 (18442240474082181120 : Int)).bind fun t28 =>
                          if t28 = (18442240474082181120 : Int) then
                            (soft_Add.f a0 (18442240474082181120 : Int)).bind fun t30 =>
                            if t30 = (18442240474082181120 : Int) then
                              (soft_Div.f a0 (18442240474082181120 : Int)).bind fun t32 =>
                              if (shl .u64 t32 (1 : Int)) = (0 : Int) then
                                (soft_Sqrt.f a0).bind fun t34 =>
                                if (t34 == (9221120237041090560 : Int)) = ((shr .u64 a0 (63 : Int)) == (1 : Int)) then
                                  halterlaw02_sure.f.bind fun t36 =>
                                  some t36
                                else
                                  some false
                              else
                                some false
                            else
                              some false
                          else
                            some false
                        else
                          some false
                      else
                        (soft_Div.f a0 (9223372036854775808 : Int)).bind fun t37 =>
                        if t37 = (9218868437227405312 : Int) then
                          (soft_Mul.f a0 (18442240474082181120 : Int)).bind fun t39 =>
                          if t39 = (9218868437227405312 : Int) then
                            (soft_Add.f a0 (18442240474082181120 : Int)).bind fun t41 =>
                            if t41 = (18442240474082181120 : Int) then
                              (soft_Div.f a0 (18442240474082181120 : Int)).bind fun t43 =>
                              if (shl .u64 t43 (1 : Int)) = (0 : Int) then
                                (soft_Sqrt.f a0).bind fun t45 =>
                                if (t45 == (9221120237041090560 : Int)) = ((shr .u64 a0 (63 : Int)) == (1 : Int)) then
                                  halterlaw02_sure.f.bind fun t47 =>
                                  some t47
                                else
                                  some false
                              else
                                some false
                            else
                              some false
                          else
                            some false
                        else
                          some false
  else
    (soft_Mul.f (0 : Int) (9218868437227405312 : Int)).bind fun t48 =>
    if ¬ t48 = (9221120237041090560 : Int) then
      some false
    else
      (soft_Sub.f (9218868437227405312 : Int) (9218868437227405312 : Int)).bind fun t50 =>
      if ¬ t50 = (9221120237041090560 : Int) then
        some false
      else
        (soft_Div.f (0 : Int) (0 : Int)).bind fun t52 =>
        if ¬ t52 = (9221120237041090560 : Int) then
          some false
        else
          (soft_Div.f (9218868437227405312 : Int) (9218868437227405312 : Int)).bind fun t54 =>
          if ¬ t54 = (9221120237041090560 : Int) then
            some false
          else
            (soft_Sqrt.f (0 : Int)).bind fun t56 =>
            if ¬ t56 = (0 : Int) then
              some false
            else
              (soft_Sqrt.f (9218868437227405312 : Int)).bind fun t58 =>
              if ¬ ((t58 == (9221120237041090560 : Int)) = a1) then
                some false
              else
                (soft_Class.f a0).bind fun t60 =>
                if t60 = (4 : Int) then
                  halterlaw02_sure.f.bind fun t62 =>
                  some t62
                else
                  if t60 = (3 : Int) then
                    halterlaw02_sure.f.bind fun t64 =>
                    some t64
                  else
                    if t60 = (0 : Int) then
                      (soft_Add.f a0 (9218868437227405312 : Int)).bind fun t66 =>
                      if t66 = (9218868437227405312 : Int) then
                        (soft_Cmp.f a0 (0 : Int)).bind fun t68 =>
                        if t68 = (0 : Int) then
                          halterlaw02_sure.f.bind fun t70 =>
                          some t70
                        else
                          some false
                      else
                        some false
                    else
                      if ¬ (((shr .u64 a0 (63 : Int)) == (1 : Int)) = a1) then
                        (soft_Div.f a0 (0 : Int)).bind fun t72 =>
                        if t72 = (18442240474082181120 : Int) then
                          (soft_Mul.f a0 (9218868437227405312 : Int)).bind fun t74 =>
                          if t74 = (18442240474082181120 : Int) then
                            (soft_Add.f a0 (9218868437227405312 : Int)).bind fun t76 =>
                            if t76 = (9218868437227405312 : Int) then
                              (soft_Div.f a0 (9218868437227405312 : Int)).bind fun t78 =>
                              if (shl .u64 t78 (1 : Int)) = (0 : Int) then
                                (soft_Sqrt.f a0).bind fun t80 =>
                                if (t80 == (9221120237041090560 : Int)) = ((shr .u64 a0 (63 : Int)) == (1 : Int)) then
                                  halterlaw02_sure.f.bind fun t82 =>
                                  some t82
                                else
                                  some false
                              else
                                some false
                            else
                              some false
                          else
                            some false
                        else
                          some false
                      else
                        (soft_Div.f a0 (0 : Int)).bind fun t83 =>
                        if t83 = (9218868437227405312 : Int) then
                          (soft_Mul.f a0 (9218868437227405312 : Int)).bind fun t85 =>
                          if t85 = (9218868437227405312 : Int) then
                            (soft_Add.f a0 (9218868437227405312 : Int)).bind fun t87 =>
                            if t87 = (9218868437227405312 : Int) then
                              (soft_Div.f a0 (9218868437227405312 : Int)).bind fun t89 =>
                              if (shl .u64 t89 (1 : Int)) = (0 : Int) then
                                (soft_Sqrt.f a0).bind fun t91 =>
                                if (t91 == (9221120237041090560 : Int)) = ((shr .u64 a0 (63 : Int)) == (1 : Int)) then
                                  halterlaw02_sure.f.bind fun t93 =>
                                  some t93
                                else
                                  some false
                              else
                                some false
                            else
                              some false
                          else
                            some false
                        else
                          some false
def halterlaw02_SoftEdges.R (r : Bool) : Tm := .v (.one (.sc (.bool r)))
theorem halterlaw02_SoftEdges.fun_ {a0 : Int} {a1 : Bool} {r : Bool} (h : halterlaw02_SoftEdges.f a0 a1 = some r) : Fun cfg 6 [.one (.sc (.int .u64 a0)), .one (.sc (.bool a1))] [] (halterlaw02_SoftEdges.R r) [] := by
  unfold halterlaw02_SoftEdges.f at h
  refine fun_of_run cfg_ok (f := 6) (fn := Try.f6) Try.func6 rfl (by kernel_rfl) (rs := [.tmp 4]) rfl (nt := 111) rfl (l := fin) (k := (.br (.call true [] (Int) (fun t2 => soft_Mul.R t2) (fun t2 => (.br (.one true (.one true (.one true (.one true (.one true (.one true (.one true (.one true (.one true (.one true (.one true (.one true (.one true (.one true (.one true (.one true (.one true (.one true (.one true (.one true (.one true (.one true (.one true (.one true (.one true (.one true (.adj [] (.adj [] (.adj [] .nil))))))))))))))))))))))))))))) (.one false (.one false (.call true [] (Int) (fun t4 => soft_Sub.R t4) (fun t4 => (.one false (.one false (.br (.one true (.one true (.one true (.one true (.one true (.one true (.one true (.one true (.one true (.one true (.one true (.one true (.one true (.one true (.one true (.one true (.one true (.one true (.one true (.one true (.one true (.adj [] (.adj [] (.adj [] .nil)))))))))))))))))))))))) (.one false (.one false (.call true [] (Int) (fun t6 => soft_Div.R t6) (fun t6 => (.one false (.one false (.br (.one true (.one true (.one true (.one true (.one true (.one true (.one true (.one true (.one true (.one true (.one true (.one true (.one true (.one true (.one true (.one true (.adj [] (.adj [] (.adj [] .nil))))))))))))))))))) (.one false (.one false (.call true [] (Int) (fun t8 => soft_Div.R t8) (fun t8 => (.one false (.one false (.br (.one true (.one true (.one true (.one true (.one true (.one true (.one true (.one true (.one true (.one true (.one true (.adj [] (.adj [] (.adj [] .nil)))))))))))))) (.one false (.call true [] (Int) (fun t10 => soft_Sqrt.R t10) (fun t10 => (.one false (.one false (.one false (.br (.one true (.one true (.one true (.one true (.one true (.one true (.adj [] (.adj [] (.adj [] .nil))))))))) (.one false (.call true [] (Int) (fun t12 => soft_Sqrt.R t12) (fun t12 => (.one false (.one false (.one false (.one false (.br (.adj [] (.adj [] (.adj [] .nil))) (.call true [] (Int) (fun t14 => soft_Class.R t14) (fun t14 => (.br (.one true (.call true [] (Bool) (fun t16 => halterlaw02_sure.R t16) (fun t16 => (.adj [] (.adj [] .nil))))) (.br (.call true [] (Bool) (fun t18 => halterlaw02_sure.R t18) (fun t18 => (.adj [] (.adj [] .nil)))) (.br (.call true [] (Int) (fun t20 => soft_Add.R t20) (fun t20 => (.br (.one true (.one true (.call true [] (Int) (fun t22 => soft_Cmp.R t22) (fun t22 => (.one true (.one true (.br (.call true [] (Bool) (fun t24 => halterlaw02_sure.R t24) (fun t24 => (.one true (.adj [] (.adj [] .nil))))) (.one false (.adj [] (.adj [] .nil)))))))))) (.one false (.one false (.one false (.one false (.one false (.one false (.adj [] (.adj [] .nil))))))))))) (.br (.call true [] (Int) (fun t26 => soft_Div.R t26) (fun t26 => (.br (.one true (.one true (.call true [] (Int) (fun t28 => soft_Mul.R t28) (fun t28 => (.one true (.one true (.one true (.br (.one true (.one true (.call true [] (Int) (fun t30 => soft_Add.R t30) (fun t30 => (.one true (.one true (.one true (.br (.one true (.one true (.call true [] (Int) (fun t32 => soft_Div.R t32) (fun t32 => (.one true (.one true (.one true (.br (.one true (.call true [] (Int) (fun t34 => soft_Sqrt.R t34) (fun t34 => (.one true (.one true (.one true (.one true (.one true (.one true (.br (.call true [] (Bool) (fun t36 => halterlaw02_sure.R t36) (fun t36 => (.one true (.adj [] (.adj [] .nil))))) (.one false (.adj [] (.adj [] .nil))))))))))))) (.one false (.one false (.one false (.one false (.one false (.one false (.one false (.one false (.one false (.adj [] (.adj [] .nil))))))))))))))))))) (.one false (.one false (.one false (.one false (.one false (.one false (.one false (.one false (.one false (.one false (.one false (.one false (.one false (.one false (.one false (.adj [] (.adj [] .nil))))))))))))))))))))))))) (.one false (.one false (.one false (.one false (.one false (.one false (.one false (.one false (.one false (.one false (.one false (.one false (.one false (.one false (.one false (.one false (.one false (.one false (.one false (.one false (.one false (.adj [] (.adj [] .nil))))))))))))))))))))))))))))))) (.one false (.one false (.one false (.one false (.one false (.one false (.one false (.one false (.one false (.one false (.one false (.one false (.one false (.one false (.one false (.one false (.one false (.one false (.one false (.one false (.one false (.one false (.one false (.one false (.one false (.one false (.one false (.adj [] (.adj [] .nil)))))))))))))))))))))))))))))))) (.call true [] (Int) (fun t37 => soft_Div.R t37) (fun t37 => (.br (.one true (.one true (.call true [] (Int) (fun t39 => soft_Mul.R t39) (fun t39 => (.one true (.one true (.one true (.br (.one true (.one true (.call true [] (Int) (fun t41 => soft_Add.R t41) (fun t41 => (.one true (.one true (.one true (.br (.one true (.one true (.call true [] (Int) (fun t43 => soft_Div.R t43) (fun t43 => (.one true (.one true (.one true (.br (.one true (.call true [] (Int) (fun t45 => soft_Sqrt.R t45) (fun t45 => (.one true (.one true (.one true (.one true (.one true (.one true (.br (.call true [] (Bool) (fun t47 => halterlaw02_sure.R t47) (fun t47 => (.one true (.adj [] (.adj [] .nil))))) (.one false (.adj [] (.adj [] .nil))))))))))))) (.one false (.one false (.one false (.one false (.one false (.one false (.one false (.one false (.one false (.adj [] (.adj [] .nil))))))))))))))))))) (.one false (.one false (.one false (.one false (.one false (.one false (.one false (.one false (.one false (.one false (.one false (.one false (.one false (.one false (.one false (.adj [] (.adj [] .nil))))))))))))))))))))))))) (.one false (.one false (.one false (.one false (.one false (.one false (.one false (.one false (.one false (.one false (.one false (.one false (.one false (.one false (.one false (.one false (.one false (.one false (.one false (.one false (.one false (.adj [] (.adj [] .nil))))))))))))))))))))))))))))))) (.one false (.one false (.one false (.one false (.one false (.one false (.one false (.one false (.one false (.one false (.one false (.one false (.one false (.one false (.one false (.one false (.one false (.one false (.one false (.one false (.one false (.one false (.one false (.one false (.one false (.one false (.one false (.adj [] (.adj [] .nil))))))))))))))))))))))))))))))))))))))))))))))))))))))))))))))))))))))))))))) (.call true [] (Int) (fun t48 => soft_Mul.R t48) (fun t48 => (.br (.one true (.one true (.one true (.one true (.one true (.one true (.one true (.one true (.one true (.one true (.one true (.one true (.one true (.one true (.one true (.one true (.one true (.one true (.one true (.one true (.one true (.one true (.one true (.one true (.one true (.one true (.adj [] (.adj [] (.adj [] .nil))))))))))))))))))))))))))))) (.one false (.one false (.call true [] (Int) (fun t50 => soft_Sub.R t50) (fun t50 => (.one false (.one false (.br (.one true (.one true (.one true (.one true (.one true (.one true (.one true (.one true (.one true (.one true (.one true (.one true (.one true (.one true (.one true (.one true (.one true (.one true (.one true (.one true (.one true (.adj [] (.adj [] (.adj [] .nil)))))))))))))))))))))))) (.one false (.one false (.call true [] (Int) (fun t52 => soft_Div.R t52) (fun t52 => (.one false (.one false (.br (.one true (.one true (.one true (.one true (.one true (.one true (.one true (.one true (.one true (.one true (.one true (.one true (.one true (.one true (.one true (.one true (.adj [] (.adj [] (.adj [] .nil))))))))))))))))))) (.one false (.one false (.call true [] (Int) (fun t54 => soft_Div.R t54) (fun t54 => (.one false (.one false (.br (.one true (.one true (.one true (.one true (.one true (.one true (.one true (.one true (.one true (.one true (.one true (.adj [] (.adj [] (.adj [] .nil)))))))))))))) (.one false (.call true [] (Int) (fun t56 => soft_Sqrt.R t56) (fun t56 => (.one false (.one false (.one false (.br (.one true (.one true (.one true (.one true (.one true (.one true (.adj [] (.adj [] (.adj [] .nil))))))))) (.one false (.call true [] (Int) (fun t58 => soft_Sqrt.R t58) (fun t58 => (.one false (.one false (.one false (.one false (.br (.adj [] (.adj [] (.adj [] .nil))) (.call true [] (Int) (fun t60 => soft_Class.R t60) (fun t60 => (.br (.one true (.call true [] (Bool) (fun t62 => halterlaw02_sure.R t62) (fun t62 => (.adj [] (.adj [] .nil))))) (.br (.call true [] (Bool) (fun t64 => halterlaw02_sure.R t64) (fun t64 => (.adj [] (.adj [] .nil)))) (.br (.call true [] (Int) (fun t66 => soft_Add.R t66) (fun t66 => (.br (.one true (.one true (.call true [] (Int) (fun t68 => soft_Cmp.R t68) (fun t68 => (.one true (.one true (.br (.call true [] (Bool) (fun t70 => halterlaw02_sure.R t70) (fun t70 => (.one true (.adj [] (.adj [] .nil))))) (.one false (.adj [] (.adj [] .nil)))))))))) (.one false (.one false (.one false (.one false (.one false (.one false (.adj [] (.adj [] .nil))))))))))) (.br (.call true [] (Int) (fun t72 => soft_Div.R t72) (fun t72 => (.br (.one true (.one true (.call true [] (Int) (fun t74 => soft_Mul.R t74) (fun t74 => (.one true (.one true (.one true (.br (.one true (.one true (.call true [] (Int) (fun t76 => soft_Add.R t76) (fun t76 => (.one true (.one true (.one true (.br (.one true (.one true (.call true [] (Int) (fun t78 => soft_Div.R t78) (fun t78 => (.one true (.one true (.one true (.br (.one true (.call true [] (Int) (fun t80 => soft_Sqrt.R t80) (fun t80 => (.one true (.one true (.one true (.one true (.one true (.one true (.br (.call true [] (Bool) (fun t82 => halterlaw02_sure.R t82) (fun t82 => (.one true (.adj [] (.adj [] .nil))))) (.one false (.adj [] (.adj [] .nil))))))))))))) (.one false (.one false (.one false (.one false (.one false (.one false (.one false (.one false (.one false (.adj [] (.adj [] .nil))))))))))))))))))) (.one false (.one false (.one false (.one false (.one false (.one false (.one false (.one false (.one false (.one false (.one false (.one false (.one false (.one false (.one false (.adj [] (.adj [] .nil))))))))))))))))))))))))) (.one false (.one false (.one false (.one false (.one false (.one false (.one false (.one false (.one false (.one false (.one false (.one false (.one false (.one false (.one false (.one false (.one false (.one false (.one false (.one false (.one false (.adj [] (.adj [] .nil))))))))))))))))))))))))))))))) (.one false (.one false (.one false (.one false (.one false (.one false (.one false (.one false (.one false (.one false (.one false (.one false (.one false (.one false (.one false (.one false (.one false (.one false (.one false (.one false (.one false (.one false (.one false (.one false (.one false (.one false (.one false (.adj [] (.adj [] .nil)))))))))))))))))))))))))))))))) (.call true [] (Int) (fun t83 => soft_Div.R t83) (fun t83 => (.br (.one true (.one true (.call true [] (Int) (fun t85 => soft_Mul.R t85) (fun t85 => (.one true (.one true (.one true (.br (.one true (.one true (.call true [] (Int) (fun t87 => soft_Add.R t87) (fun t87 => (.one true (.one true (.one true (.br (.one true (.one true (.call true [] (Int) (fun t89 => soft_Div.R t89) (fun t89 => (.one true (.one true (.one true (.br (.one true (.call true [] (Int) (fun t91 => soft_Sqrt.R t91) (fun t91 => (.one true (.one true (.one true (.one true (.one true (.one true (.br (.call true [] (Bool) (fun t93 => halterlaw02_sure.R t93) (fun t93 => (.one true (.adj [] (.adj [] .nil))))) (.one false (.adj [] (.adj [] .nil))))))))))))) (.one false (.one false (.one false (.one false (.one false (.one false (.one false (.one false (.one false (.adj [] (.adj [] .nil))))))))))))))))))) (.one false (.one false (.one false (.one false (.one false (.one false (.one false (.one false (.one false (.one false (.one false (.one false (.one false (.one false (.one false (.adj [] (.adj [] .nil))))))))))))))))))))))))) (.one false (.one false (.one false (.one false (.one false (.one false (.one false (.one false (.one false (.one false (.one false (.one false (.one false (.one false (.one false (.one false (.one false (.one false (.one false (.one false (.one false (.adj [] (.adj [] .nil))))))))))))))))))))))))))))))) (.one false (.one false (.one false (.one false (.one false (.one false (.one false (.one false (.one false (.one false (.one false (.one false (.one false (.one false (.one false (.one false (.one false (.one false (.one false (.one false (.one false (.one false (.one false (.one false (.one false (.one false (.one false (.adj [] (.adj [] .nil))))))))))))))))))))))))))))))))))))))))))))))))))))))))))))))))))))))))))))))) (to_goal (q := ((a1 = true → (∃ t2 : Int, (Fun cfg 9 [.one (.sc (.int .u64 (9223372036854775808 : Int))), .one (.sc (.int .u64 (18442240474082181120 : Int)))] [] (soft_Mul.R t2) [] ∧ True) ∧ (True) ∧ (((t2 != (9221120237041090560 : Int)) = false → ((t2 != (9221120237041090560 : Int)) = false ∧ ((t2 != (9221120237041090560 : Int)) = false ∧ (∃ t4 : Int, (Fun cfg 18 [.one (.sc (.int .u64 (18442240474082181120 : Int))), .one (.sc (.int .u64 (18442240474082181120 : Int)))] [] (soft_Sub.R t4) [] ∧ True) ∧ ((t2 != (9221120237041090560 : Int)) = false ∧ (True) ∧ ((t2 != (9221120237041090560 : Int)) = false ∧ (((t4 != (9221120237041090560 : Int)) = false → ((t4 != (9221120237041090560 : Int)) = false ∧ ((t4 != (9221120237041090560 : Int)) = false ∧ (∃ t6 : Int, (Fun cfg 11 [.one (.sc (.int .u64 (9223372036854775808 : Int))), .one (.sc (.int .u64 (9223372036854775808 : Int)))] [] (soft_Div.R t6) [] ∧ True) ∧ ((t4 != (9221120237041090560 : Int)) = false ∧ (True) ∧ ((t4 != (9221120237041090560 : Int)) = false ∧ (((t6 != (9221120237041090560 : Int)) = false → ((t6 != (9221120237041090560 : Int)) = false ∧ ((t6 != (9221120237041090560 : Int)) = false ∧ (∃ t8 : Int, (Fun cfg 11 [.one (.sc (.int .u64 (18442240474082181120 : Int))), .one (.sc (.int .u64 (18442240474082181120 : Int)))] [] (soft_Div.R t8) [] ∧ True) ∧ ((t6 != (9221120237041090560 : Int)) = false ∧ (True) ∧ ((t6 != (9221120237041090560 : Int)) = false ∧ (((t8 != (9221120237041090560 : Int)) = false → ((t8 != (9221120237041090560 : Int)) = false ∧ (∃ t10 : Int, (Fun cfg 13 [.one (.sc (.int .u64 (9223372036854775808 : Int)))] [] (soft_Sqrt.R t10) [] ∧ True) ∧ ((t8 != (9221120237041090560 : Int)) = false ∧ ((t8 != (9221120237041090560 : Int)) = false ∧ (True) ∧ ((t8 != (9221120237041090560 : Int)) = false ∧ (((t10 != (9223372036854775808 : Int)) = false → ((t10 != (9223372036854775808 : Int)) = false ∧ (∃ t12 : Int, (Fun cfg 13 [.one (.sc (.int .u64 (18442240474082181120 : Int)))] [] (soft_Sqrt.R t12) [] ∧ True) ∧ ((t10 != (9223372036854775808 : Int)) = false ∧ (True) ∧ ((t10 != (9223372036854775808 : Int)) = false ∧ ((t10 != (9223372036854775808 : Int)) = false ∧ (True) ∧ ((t10 != (9223372036854775808 : Int)) = false ∧ (((!((t12 == (9221120237041090560 : Int)) == a1)) = true → (True ∧ (True ∧ ((True) ∧ (True) ∧ (.v (.one (.sc (.bool false))) : Tm) = halterlaw02_SoftEdges.R r ∧ ([] : List Box) = [])))) ∧ ((!((t12 == (9221120237041090560 : Int)) == a1)) = false → (∃ t14 : Int, (Fun cfg 20 [.one (.sc (.int .u64 a0))] [] (soft_Class.R t14) [] ∧ True) ∧ (True) ∧ (((t14 == (4 : Int)) = true → ((t14 == (4 : Int)) = true ∧ (∃ t16 : Bool, (Fun cfg 15 [] [] (halterlaw02_sure.R t16) [] ∧ True) ∧ (True ∧ ((True) ∧ (True) ∧ (.v (.one (.sc (.bool t16))) : Tm) = halterlaw02_SoftEdges.R r ∧ ([] : List Box) = []))))) ∧ ((t14 == (4 : Int)) = false → (True) ∧ (((t14 == (3 : Int)) = true → (∃ t18 : Bool, (Fun cfg 15 [] [] (halterlaw02_sure.R t18) [] ∧ True) ∧ (True ∧ ((True) ∧ (True) ∧ (.v (.one (.sc (.bool t18))) : Tm) = halterlaw02_SoftEdges.R r ∧ ([] : List Box) = [])))) ∧ ((t14 == (3 : Int)) = false → (True) ∧ (((t14 == (0 : Int)) = true → (∃ t20 : Int, (Fun cfg 16 [.one (.sc (.int .u64 a0)), .one (.sc (.int .u64 (18442240474082181120 : Int)))] [] (soft_Add.R t20) [] ∧ True) ∧ (True) ∧ (((t20 == (18442240474082181120 : Int)) = true → ((t20 == (18442240474082181120 : Int)) = true ∧ ((t20 == (18442240474082181120 : Int)) = true ∧ (∃ t22 : Int, (Fun cfg 24 [.one (.sc (.int .u64 a0)), .one (.sc (.int .u64 (9223372036854775808 : Int)))] [] (soft_Cmp.R t22) [] ∧ True) ∧ ((t20 == (18442240474082181120 : Int)) = true ∧ (True) ∧ ((t20 == (18442240474082181120 : Int)) = true ∧ (((t22 == (0 : Int)) = true → (∃ t24 : Bool, (Fun cfg 15 [] [] (halterlaw02_sure.R t24) [] ∧ True) ∧ ((t22 == (0 : Int)) = true ∧ (True ∧ ((True) ∧ (True) ∧ (.v (.one (.sc (.bool t24))) : Tm) = halterlaw02_SoftEdges.R r ∧ ([] : List Box) = []))))) ∧ ((t22 == (0 : Int)) = false → ((t22 == (0 : Int)) = false ∧ (True ∧ ((True) ∧ (True) ∧ (.v (.one (.sc (.bool false))) : Tm) = halterlaw02_SoftEdges.R r ∧ ([] : List Box) = []))))))))))) ∧ ((t20 == (18442240474082181120 : Int)) = false → ((t20 == (18442240474082181120 : Int)) = false ∧ ((t20 == (18442240474082181120 : Int)) = false ∧ ((t20 == (18442240474082181120 : Int)) = false ∧ ((t20 == (18442240474082181120 : Int)) = false ∧ (false = false ∧ (false = false ∧ (True ∧ ((True) ∧ (True) ∧ (.v (.one (.sc (.bool false))) : Tm) = halterlaw02_SoftEdges.R r ∧ ([] : List Box) = [])))))))))))) ∧ ((t14 == (0 : Int)) = false → (0 ≤ (63 : Int)) ∧ (True) ∧ (True) ∧ (((!(((shr .u64 a0 (63 : Int)) == (1 : Int)) == a1)) = true → (∃ t26 : Int, (Fun cfg 11 [.one (.sc (.int .u64 a0)), .one (.sc (.int .u64 (9223372036854775808 : Int)))] [] (soft_Div.R t26) [] ∧ True) ∧ (True) ∧ (((t26 == (18442240474082181120 : Int)) = true → ((t26 == (18442240474082181120 : Int)) = true ∧ ((t26 == (18442240474082181120 : Int)) = true ∧ (∃ t28 : Int, (Fun cfg 9 [.one (.sc (.int .u64 a0)), .one (.sc (.int .u64 (18442240474082181120 : Int)))] [] (soft_Mul.R t28) [] ∧ True) ∧ ((t26 == (18442240474082181120 : Int)) = true ∧ ((t26 == (18442240474082181120 : Int)) = true ∧ (True) ∧ ((t26 == (18442240474082181120 : Int)) = true ∧ (((t28 == (18442240474082181120 : Int)) = true → ((t28 == (18442240474082181120 : Int)) = true ∧ ((t28 == (18442240474082181120 : Int)) = true ∧ (∃ t30 : Int, (Fun cfg 16 [.one (.sc (.int .u64 a0)), .one (.sc (.int .u64 (18442240474082181120 : Int)))] [] (soft_Add.R t30) [] ∧ True) ∧ ((t28 == (18442240474082181120 : Int)) = true ∧ ((t28 == (18442240474082181120 : Int)) = true ∧ (True) ∧ ((t28 == (18442240474082181120 : Int)) = true ∧ (((t30 == (18442240474082181120 : Int)) = true → ((t30 == (18442240474082181120 : Int)) = true ∧ ((t30 == (18442240474082181120 : Int)) = true ∧ (∃ t32 : Int, (Fun cfg 11 [.one (.sc (.int .u64 a0)), .one (.sc (.int .u64 (18442240474082181120 : Int)))] [] (soft_Div.R t32) [] ∧ True) ∧ ((t30 == (18442240474082181120 : Int)) = true ∧ (0 ≤ (1 : Int)) ∧ ((t30 == (18442240474082181120 : Int)) = true ∧ (True) ∧ ((t30 == (18442240474082181120 : Int)) = true ∧ ((((shl .u64 t32 (1 : Int)) == (0 : Int)) = true → (((shl .u64 t32 (1 : Int)) == (0 : Int)) = true ∧ (∃ t34 : Int, (Fun cfg 13 [.one (.sc (.int .u64 a0))] [] (soft_Sqrt.R t34) [] ∧ True) ∧ (((shl .u64 t32 (1 : Int)) == (0 : Int)) = true ∧ (True) ∧ (((shl .u64 t32 (1 : Int)) == (0 : Int)) = true ∧ (((shl .u64 t32 (1 : Int)) == (0 : Int)) = true ∧ (0 ≤ (63 : Int)) ∧ (((shl .u64 t32 (1 : Int)) == (0 : Int)) = true ∧ (True) ∧ (((shl .u64 t32 (1 : Int)) == (0 : Int)) = true ∧ (True) ∧ (((shl .u64 t32 (1 : Int)) == (0 : Int)) = true ∧ ((((t34 == (9221120237041090560 : Int)) == ((shr .u64 a0 (63 : Int)) == (1 : Int))) = true → (∃ t36 : Bool, (Fun cfg 15 [] [] (halterlaw02_sure.R t36) [] ∧ True) ∧ (((t34 == (9221120237041090560 : Int)) == ((shr .u64 a0 (63 : Int)) == (1 : Int))) = true ∧ (True ∧ ((True) ∧ (True) ∧ (.v (.one (.sc (.bool t36))) : Tm) = halterlaw02_SoftEdges.R r ∧ ([] : List Box) = []))))) ∧ (((t34 == (9221120237041090560 : Int)) == ((shr .u64 a0 (63 : Int)) == (1 : Int))) = false → (((t34 == (9221120237041090560 : Int)) == ((shr .u64 a0 (63 : Int)) == (1 : Int))) = false ∧ (True ∧ ((True) ∧ (True) ∧ (.v (.one (.sc (.bool false))) : Tm) = halterlaw02_SoftEdges.R r ∧ ([] : List Box) = [])))))))))))))) ∧ (((shl .u64 t32 (1 : Int)) == (0 : Int)) = false → (((shl .u64 t32 (1 : Int)) == (0 : Int)) = false ∧ (((shl .u64 t32 (1 : Int)) == (0 : Int)) = false ∧ (((shl .u64 t32 (1 : Int)) == (0 : Int)) = false ∧ (((shl .u64 t32 (1 : Int)) == (0 : Int)) = false ∧ (((shl .u64 t32 (1 : Int)) == (0 : Int)) = false ∧ (((shl .u64 t32 (1 : Int)) == (0 : Int)) = false ∧ (((shl .u64 t32 (1 : Int)) == (0 : Int)) = false ∧ (false = false ∧ (false = false ∧ (True ∧ ((True) ∧ (True) ∧ (.v (.one (.sc (.bool false))) : Tm) = halterlaw02_SoftEdges.R r ∧ ([] : List Box) = [])))))))))))))))))))) ∧ ((t30 == (18442240474082181120 : Int)) = false → ((t30 == (18442240474082181120 : Int)) = false ∧ ((t30 == (18442240474082181120 : Int)) = false ∧ ((t30 == (18442240474082181120 : Int)) = false ∧ ((t30 == (18442240474082181120 : Int)) = false ∧ ((t30 == (18442240474082181120 : Int)) = false ∧ (false = false ∧ (false = false ∧ (false = false ∧ (false = false ∧ (false = false ∧ (false = false ∧ (false = false ∧ (false = false ∧ (false = false ∧ (false = false ∧ (True ∧ ((True) ∧ (True) ∧ (.v (.one (.sc (.bool false))) : Tm) = halterlaw02_SoftEdges.R r ∧ ([] : List Box) = [])))))))))))))))))))))))))) ∧ ((t28 == (18442240474082181120 : Int)) = false → ((t28 == (18442240474082181120 : Int)) = false ∧ ((t28 == (18442240474082181120 : Int)) = false ∧ ((t28 == (18442240474082181120 : Int)) = false ∧ ((t28 == (18442240474082181120 : Int)) = false ∧ ((t28 == (18442240474082181120 : Int)) = false ∧ (false = false ∧ (false = false ∧ (false = false ∧ (false = false ∧ (false = false ∧ (false = false ∧ (false = false ∧ (false = false ∧ (false = false ∧ (false = false ∧ (false = false ∧ (false = false ∧ (false = false ∧ (false = false ∧ (false = false ∧ (false = false ∧ (True ∧ ((True) ∧ (True) ∧ (.v (.one (.sc (.bool false))) : Tm) = halterlaw02_SoftEdges.R r ∧ ([] : List Box) = [])))))))))))))))))))))))))))))))) ∧ ((t26 == (18442240474082181120 : Int)) = false → ((t26 == (18442240474082181120 : Int)) = false ∧ ((t26 == (18442240474082181120 : Int)) = false ∧ ((t26 == (18442240474082181120 : Int)) = false ∧ ((t26 == (18442240474082181120 : Int)) = false ∧ ((t26 == (18442240474082181120 : Int)) = false ∧ (false = false ∧ (false = false ∧ (false = false ∧ (false = false ∧ (false = false ∧ (false = false ∧ (false = false ∧ (false = false ∧ (false = false ∧ (false = false ∧ (false = false ∧ (false = false ∧ (false = false ∧ (false = false ∧ (false = false ∧ (false = false ∧ (false = false ∧ (false = false ∧ (false = false ∧ (false = false ∧ (false = false ∧ (false = false ∧ (True ∧ ((True) ∧ (True) ∧ (.v (.one (.sc (.bool false))) : Tm) = halterlaw02_SoftEdges.R r ∧ ([] : List Box) = []))))))))))))))))))))))))))))))))) ∧ ((!(((shr .u64 a0 (63 : Int)) == (1 : Int)) == a1)) = false → (∃ t37 : Int, (Fun cfg 11 [.one (.sc (.int .u64 a0)), .one (.sc (.int .u64 (9223372036854775808 : Int)))] [] (soft_Div.R t37) [] ∧ True) ∧ (True) ∧ (((t37 == (9218868437227405312 : Int)) = true → ((t37 == (9218868437227405312 : Int)) = true ∧ ((t37 == (9218868437227405312 : Int)) = true ∧ (∃ t39 : Int, (Fun cfg 9 [.one (.sc (.int .u64 a0)), .one (.sc (.int .u64 (18442240474082181120 : Int)))] [] (soft_Mul.R t39) [] ∧ True) ∧ ((t37 == (9218868437227405312 : Int)) = true ∧ ((t37 == (9218868437227405312 : Int)) = true ∧ (True) ∧ ((t37 == (9218868437227405312 : Int)) = true ∧ (((t39 == (9218868437227405312 : Int)) = true → ((t39 == (9218868437227405312 : Int)) = true ∧ ((t39 == (9218868437227405312 : Int)) = true ∧ (∃ t41 : Int, (Fun cfg 16 [.one (.sc (.int .u64 a0)), .one (.sc (.int .u64 (18442240474082181120 : Int)))] [] (soft_Add.R t41) [] ∧ True) ∧ ((t39 == (9218868437227405312 : Int)) = true ∧ ((t39 == (9218868437227405312 : Int)) = true ∧ (True) ∧ ((t39 == (9218868437227405312 : Int)) = true ∧ (((t41 == (18442240474082181120 : Int)) = true → ((t41 == (18442240474082181120 : Int)) = true ∧ ((t41 == (18442240474082181120 : Int)) = true ∧ (∃ t43 : Int, (Fun cfg 11 [.one (.sc (.int .u64 a0)), .one (.sc (.int .u64 (18442240474082181120 : Int)))] [] (soft_Div.R t43) [] ∧ True) ∧ ((t41 == (18442240474082181120 : Int)) = true ∧ (0 ≤ (1 : Int)) ∧ ((t41 == (18442240474082181120 : Int)) = true ∧ (True) ∧ ((t41 == (18442240474082181120 : Int)) = true ∧ ((((shl .u64 t43 (1 : Int)) == (0 : Int)) = true → (((shl .u64 t43 (1 : Int)) == (0 : Int)) = true ∧ (∃ t45 : Int, (Fun cfg 13 [.one (.sc (.int .u64 a0))] [] (soft_Sqrt.R t45) [] ∧ True) ∧ (((shl .u64 t43 (1 : Int)) == (0 : Int)) = true ∧ (True) ∧ (((shl .u64 t43 (1 : Int)) == (0 : Int)) = true ∧ (((shl .u64 t43 (1 : Int)) == (0 : Int)) = true ∧ (0 ≤ (63 : Int)) ∧ (((shl .u64 t43 (1 : Int)) == (0 : Int)) = true ∧ (True) ∧ (((shl .u64 t43 (1 : Int)) == (0 : Int)) = true ∧ (True) ∧ (((shl .u64 t43 (1 : Int)) == (0 : Int)) = true ∧ ((((t45 == (9221120237041090560 : Int)) == ((shr .u64 a0 (63 : Int)) == (1 : Int))) = true → (∃ t47 : Bool, (Fun cfg 15 [] [] (halterlaw02_sure.R t47) [] ∧ True) ∧ (((t45 == (9221120237041090560 : Int)) == ((shr .u64 a0 (63 : Int)) == (1 : Int))) = true ∧ (True ∧ ((True) ∧ (True) ∧ (.v (.one (.sc (.bool t47))) : Tm) = halterlaw02_SoftEdges.R r ∧ ([] : List Box) = []))))) ∧ (((t45 == (9221120237041090560 : Int)) == ((shr .u64 a0 (63 : Int)) == (1 : Int))) = false → (((t45 == (9221120237041090560 : Int)) == ((shr .u64 a0 (63 : Int)) == (1 : Int))) = false ∧ (True ∧ ((True) ∧ (True) ∧ (.v (.one (.sc (.bool false))) : Tm) = halterlaw02_SoftEdges.R r ∧ ([] : List Box) = [])))))))))))))) ∧ (((shl .u64 t43 (1 : Int)) == (0 : Int)) = false → (((shl .u64 t43 (1 : Int)) == (0 : Int)) = false ∧ (((shl .u64 t43 (1 : Int)) == (0 : Int)) = false ∧ (((shl .u64 t43 (1 : Int)) == (0 : Int)) = false ∧ (((shl .u64 t43 (1 : Int)) == (0 : Int)) = false ∧ (((shl .u64 t43 (1 : Int)) == (0 : Int)) = false ∧ (((shl .u64 t43 (1 : Int)) == (0 : Int)) = false ∧ (((shl .u64 t43 (1 : Int)) == (0 : Int)) = false ∧ (false = false ∧ (false = false ∧ (True ∧ ((True) ∧ (True) ∧ (.v (.one (.sc (.bool false))) : Tm) = halterlaw02_SoftEdges.R r ∧ ([] : List Box) = [])))))))))))))))))))) ∧ ((t41 == (18442240474082181120 : Int)) = false → ((t41 == (18442240474082181120 : Int)) = false ∧ ((t41 == (18442240474082181120 : Int)) = false ∧ ((t41 == (18442240474082181120 : Int)) = false ∧ ((t41 == (18442240474082181120 : Int)) = false ∧ ((t41 == (18442240474082181120 : Int)) = false ∧ (false = false ∧ (false = false ∧ (false = false ∧ (false = false ∧ (false = false ∧ (false = false ∧ (false = false ∧ (false = false ∧ (false = false ∧ (false = false ∧ (True ∧ ((True) ∧ (True) ∧ (.v (.one (.sc (.bool false))) : Tm) = halterlaw02_SoftEdges.R r ∧ ([] : List Box) = [])))))))))))))))))))))))))) ∧ ((t39 == (9218868437227405312 : Int)) = false → ((t39 == (9218868437227405312 : Int)) = false ∧ ((t39 == (9218868437227405312 : Int)) = false ∧ ((t39 == (9218868437227405312 : Int)) = false ∧ ((t39 == (9218868437227405312 : Int)) = false ∧ ((t39 == (9218868437227405312 : Int)) = false ∧ (false = false ∧ (false = false ∧ (false = false ∧ (false = false ∧ (false = false ∧ (false = false ∧ (false = false ∧ (false = false ∧ (false = false ∧ (false = false ∧ (false = false ∧ (false = false ∧ (false = false ∧ (false = false ∧ (false = false ∧ (false = false ∧ (True ∧ ((True) ∧ (True) ∧ (.v (.one (.sc (.bool false))) : Tm) = halterlaw02_SoftEdges.R r ∧ ([] : List Box) = [])))))))))))))))))))))))))))))))) ∧ ((t37 == (9218868437227405312 : Int)) = false → ((t37 == (9218868437227405312 : Int)) = false ∧ ((t37 == (9218868437227405312 : Int)) = false ∧ ((t37 == (9218868437227405312 : Int)) = false ∧ ((t37 == (9218868437227405312 : Int)) = false ∧ ((t37 == (9218868437227405312 : Int)) = false ∧ (false = false ∧ (false = false ∧ (false = false ∧ (false = false ∧ (false = false ∧ (false = false ∧ (false = false ∧ (false = false ∧ (false = false ∧ (false = false ∧ (false = false ∧ (false = false ∧ (false = false ∧ (false = false ∧ (false = false ∧ (false = false ∧ (false = false ∧ (false = false ∧ (false = false ∧ (false = false ∧ (false = false ∧ (false = false ∧ (True ∧ ((True) ∧ (True) ∧ (.v (.one (.sc (.bool false))) : Tm) = halterlaw02_SoftEdges.R r ∧ ([] : List Box) = [])))))))))))))))))))))))))))))))))))))))))))))))))) ∧ ((t10 != (9223372036854775808 : Int)) = true → ((t10 != (9223372036854775808 : Int)) = true ∧ ((t10 != (9223372036854775808 : Int)) = true ∧ ((t10 != (9223372036854775808 : Int)) = true ∧ ((t10 != (9223372036854775808 : Int)) = true ∧ ((t10 != (9223372036854775808 : Int)) = true ∧ (true = true ∧ (True ∧ (True ∧ ((True) ∧ (True) ∧ (.v (.one (.sc (.bool false))) : Tm) = halterlaw02_SoftEdges.R r ∧ ([] : List Box) = []))))))))))))))))) ∧ ((t8 != (9221120237041090560 : Int)) = true → ((t8 != (9221120237041090560 : Int)) = true ∧ ((t8 != (9221120237041090560 : Int)) = true ∧ ((t8 != (9221120237041090560 : Int)) = true ∧ ((t8 != (9221120237041090560 : Int)) = true ∧ (true = true ∧ (true = true ∧ (true = true ∧ (true = true ∧ (true = true ∧ (true = true ∧ (true = true ∧ (True ∧ (True ∧ ((True) ∧ (True) ∧ (.v (.one (.sc (.bool false))) : Tm) = halterlaw02_SoftEdges.R r ∧ ([] : List Box) = [])))))))))))))))))))))) ∧ ((t6 != (9221120237041090560 : Int)) = true → ((t6 != (9221120237041090560 : Int)) = true ∧ ((t6 != (9221120237041090560 : Int)) = true ∧ ((t6 != (9221120237041090560 : Int)) = true ∧ ((t6 != (9221120237041090560 : Int)) = true ∧ (true = true ∧ (true = true ∧ (true = true ∧ (true = true ∧ (true = true ∧ (true = true ∧ (true = true ∧ (true = true ∧ (true = true ∧ (true = true ∧ (true = true ∧ (true = true ∧ (True ∧ (True ∧ ((True) ∧ (True) ∧ (.v (.one (.sc (.bool false))) : Tm) = halterlaw02_SoftEdges.R r ∧ ([] : List Box) = []))))))))))))))))))))))))))) ∧ ((t4 != (9221120237041090560 : Int)) = true → ((t4 != (9221120237041090560 : Int)) = true ∧ ((t4 != (9221120237041090560 : Int)) = true ∧ ((t4 != (9221120237041090560 : Int)) = true ∧ ((t4 != (9221120237041090560 : Int)) = true ∧ (true = true ∧ (true = true ∧ (true = true ∧ (true = true ∧ (true = true ∧ (true = true ∧ (true = true ∧ (true = true ∧ (true = true ∧ (true = true ∧ (true = true ∧ (true = true ∧ (true = true ∧ (true = true ∧ (true = true ∧ (true = true ∧ (true = true ∧ (True ∧ (True ∧ ((True) ∧ (True) ∧ (.v (.one (.sc (.bool false))) : Tm) = halterlaw02_SoftEdges.R r ∧ ([] : List Box) = [])))))))))))))))))))))))))))))))) ∧ ((t2 != (9221120237041090560 : Int)) = true → ((t2 != (9221120237041090560 : Int)) = true ∧ ((t2 != (9221120237041090560 : Int)) = true ∧ ((t2 != (9221120237041090560 : Int)) = true ∧ ((t2 != (9221120237041090560 : Int)) = true ∧ (true = true ∧ (true = true ∧ (true = true ∧ (true = true ∧ (true = true ∧ (true = true ∧ (true = true ∧ (true = true ∧ (true = true ∧ (true = true ∧ (true = true ∧ (true = true ∧ (true = true ∧ (true = true ∧ (true = true ∧ (true = true ∧ (true = true ∧ (true = true ∧ (true = true ∧ (true = true ∧ (true = true ∧ (true = true ∧ (True ∧ (True ∧ ((True) ∧ (True) ∧ (.v (.one (.sc (.bool false))) : Tm) = halterlaw02_SoftEdges.R r ∧ ([] : List Box) = []))))))))))))))))))))))))))))))))) ∧ (a1 = false → (∃ t48 : Int, (Fun cfg 9 [.one (.sc (.int .u64 (0 : Int))), .one (.sc (.int .u64 (9218868437227405312 : Int)))] [] (soft_Mul.R t48) [] ∧ True) ∧ (True) ∧ (((t48 != (9221120237041090560 : Int)) = false → ((t48 != (9221120237041090560 : Int)) = false ∧ ((t48 != (9221120237041090560 : Int)) = false ∧ (∃ t50 : Int, (Fun cfg 18 [.one (.sc (.int .u64 (9218868437227405312 : Int))), .one (.sc (.int .u64 (9218868437227405312 : Int)))] [] (soft_Sub.R t50) [] ∧ True) ∧ ((t48 != (9221120237041090560 : Int)) = false ∧ (True) ∧ ((t48 != (9221120237041090560 : Int)) = false ∧ (((t50 != (9221120237041090560 : Int)) = false → ((t50 != (9221120237041090560 : Int)) = false ∧ ((t50 != (9221120237041090560 : Int)) = false ∧ (∃ t52 : Int, (Fun cfg 11 [.one (.sc (.int .u64 (0 : Int))), .one (.sc (.int .u64 (0 : Int)))] [] (soft_Div.R t52) [] ∧ True) ∧ ((t50 != (9221120237041090560 : Int)) = false ∧ (True) ∧ ((t50 != (9221120237041090560 : Int)) = false ∧ (((t52 != (9221120237041090560 : Int)) = false → ((t52 != (9221120237041090560 : Int)) = false ∧ ((t52 != (9221120237041090560 : Int)) = false ∧ (∃ t54 : Int, (Fun cfg 11 [.one (.sc (.int .u64 (9218868437227405312 : Int))), .one (.sc (.int .u64 (9218868437227405312 : Int)))] [] (soft_Div.R t54) [] ∧ True) ∧ ((t52 != (9221120237041090560 : Int)) = false ∧ (True) ∧ ((t52 != (9221120237041090560 : Int)) = false ∧ (((t54 != (9221120237041090560 : Int)) = false → ((t54 != (9221120237041090560 : Int)) = false ∧ (∃ t56 : Int, (Fun cfg 13 [.one (.sc (.int .u64 (0 : Int)))] [] (soft_Sqrt.R t56) [] ∧ True) ∧ ((t54 != (9221120237041090560 : Int)) = false ∧ ((t54 != (9221120237041090560 : Int)) = false ∧ (True) ∧ ((t54 != (9221120237041090560 : Int)) = false ∧ (((t56 != (0 : Int)) = false → ((t56 != (0 : Int)) = false ∧ (∃ t58 : Int, (Fun cfg 13 [.one (.sc (.int .u64 (9218868437227405312 : Int)))] [] (soft_Sqrt.R t58) [] ∧ True) ∧ ((t56 != (0 : Int)) = false ∧ (True) ∧ ((t56 != (0 : Int)) = false ∧ ((t56 != (0 : Int)) = false ∧ (True) ∧ ((t56 != (0 : Int)) = false ∧ (((!((t58 == (9221120237041090560 : Int)) == a1)) = true → (True ∧ (True ∧ ((True) ∧ (True) ∧ (.v (.one (.sc (.bool false))) : Tm) = halterlaw02_SoftEdges.R r ∧ ([] : List Box) = [])))) ∧ ((!((t58 == (9221120237041090560 : Int)) == a1)) = false → (∃ t60 : Int, (Fun cfg 20 [.one (.sc (.int .u64 a0))] [] (soft_Class.R t60) [] ∧ True) ∧ (True) ∧ (((t60 == (4 : Int)) = true → ((t60 == (4 : Int)) = true ∧ (∃ t62 : Bool, (Fun cfg 15 [] [] (halterlaw02_sure.R t62) [] ∧ True) ∧ (True ∧ ((True) ∧ (True) ∧ (.v (.one (.sc (.bool t62))) : Tm) = halterlaw02_SoftEdges.R r ∧ ([] : List Box) = []))))) ∧ ((t60 == (4 : Int)) = false → (True) ∧ (((t60 == (3 : Int)) = true → (∃ t64 : Bool, (Fun cfg 15 [] [] (halterlaw02_sure.R t64) [] ∧ True) ∧ (True ∧ ((True) ∧ (True) ∧ (.v (.one (.sc (.bool t64))) : Tm) = halterlaw02_SoftEdges.R r ∧ ([] : List Box) = [])))) ∧ ((t60 == (3 : Int)) = false → (True) ∧ (((t60 == (0 : Int)) = true → (∃ t66 : Int, (Fun cfg 16 [.one (.sc (.int .u64 a0)), .one (.sc (.int .u64 (9218868437227405312 : Int)))] [] (soft_Add.R t66) [] ∧ True) ∧ (True) ∧ (((t66 == (9218868437227405312 : Int)) = true → ((t66 == (9218868437227405312 : Int)) = true ∧ ((t66 == (9218868437227405312 : Int)) = true ∧ (∃ t68 : Int, (Fun cfg 24 [.one (.sc (.int .u64 a0)), .one (.sc (.int .u64 (0 : Int)))] [] (soft_Cmp.R t68) [] ∧ True) ∧ ((t66 == (9218868437227405312 : Int)) = true ∧ (True) ∧ ((t66 == (9218868437227405312 : Int)) = true ∧ (((t68 == (0 : Int)) = true → (∃ t70 : Bool, (Fun cfg 15 [] [] (halterlaw02_sure.R t70) [] ∧ True) ∧ ((t68 == (0 : Int)) = true ∧ (True ∧ ((True) ∧ (True) ∧ (.v (.one (.sc (.bool t70))) : Tm) = halterlaw02_SoftEdges.R r ∧ ([] : List Box) = []))))) ∧ ((t68 == (0 : Int)) = false → ((t68 == (0 : Int)) = false ∧ (True ∧ ((True) ∧ (True) ∧ (.v (.one (.sc (.bool false))) : Tm) = halterlaw02_SoftEdges.R r ∧ ([] : List Box) = []))))))))))) ∧ ((t66 == (9218868437227405312 : Int)) = false → ((t66 == (9218868437227405312 : Int)) = false ∧ ((t66 == (9218868437227405312 : Int)) = false ∧ ((t66 == (9218868437227405312 : Int)) = false ∧ ((t66 == (9218868437227405312 : Int)) = false ∧ (false = false ∧ (false = false ∧ (True ∧ ((True) ∧ (True) ∧ (.v (.one (.sc (.bool false))) : Tm) = halterlaw02_SoftEdges.R r ∧ ([] : List Box) = [])))))))))))) ∧ ((t60 == (0 : Int)) = false → (0 ≤ (63 : Int)) ∧ (True) ∧ (True) ∧ (((!(((shr .u64 a0 (63 : Int)) == (1 : Int)) == a1)) = true → (∃ t72 : Int, (Fun cfg 11 [.one (.sc (.int .u64 a0)), .one (.sc (.int .u64 (0 : Int)))] [] (soft_Div.R t72) [] ∧ True) ∧ (True) ∧ (((t72 == (18442240474082181120 : Int)) = true → ((t72 == (18442240474082181120 : Int)) = true ∧ ((t72 == (18442240474082181120 : Int)) = true ∧ (∃ t74 : Int, (Fun cfg 9 [.one (.sc (.int .u64 a0)), .one (.sc (.int .u64 (9218868437227405312 : Int)))] [] (soft_Mul.R t74) [] ∧ True) ∧ ((t72 == (18442240474082181120 : Int)) = true ∧ ((t72 == (18442240474082181120 : Int)) = true ∧ (True) ∧ ((t72 == (18442240474082181120 : Int)) = true ∧ (((t74 == (18442240474082181120 : Int)) = true → ((t74 == (18442240474082181120 : Int)) = true ∧ ((t74 == (18442240474082181120 : Int)) = true ∧ (∃ t76 : Int, (Fun cfg 16 [.one (.sc (.int .u64 a0)), .one (.sc (.int .u64 (9218868437227405312 : Int)))] [] (soft_Add.R t76) [] ∧ True) ∧ ((t74 == (18442240474082181120 : Int)) = true ∧ ((t74 == (18442240474082181120 : Int)) = true ∧ (True) ∧ ((t74 == (18442240474082181120 : Int)) = true ∧ (((t76 == (9218868437227405312 : Int)) = true → ((t76 == (9218868437227405312 : Int)) = true ∧ ((t76 == (9218868437227405312 : Int)) = true ∧ (∃ t78 : Int, (Fun cfg 11 [.one (.sc (.int .u64 a0)), .one (.sc (.int .u64 (9218868437227405312 : Int)))] [] (soft_Div.R t78) [] ∧ True) ∧ ((t76 == (9218868437227405312 : Int)) = true ∧ (0 ≤ (1 : Int)) ∧ ((t76 == (9218868437227405312 : Int)) = true ∧ (True) ∧ ((t76 == (9218868437227405312 : Int)) = true ∧ ((((shl .u64 t78 (1 : Int)) == (0 : Int)) = true → (((shl .u64 t78 (1 : Int)) == (0 : Int)) = true ∧ (∃ t80 : Int, (Fun cfg 13 [.one (.sc (.int .u64 a0))] [] (soft_Sqrt.R t80) [] ∧ True) ∧ (((shl .u64 t78 (1 : Int)) == (0 : Int)) = true ∧ (True) ∧ (((shl .u64 t78 (1 : Int)) == (0 : Int)) = true ∧ (((shl .u64 t78 (1 : Int)) == (0 : Int)) = true ∧ (0 ≤ (63 : Int)) ∧ (((shl .u64 t78 (1 : Int)) == (0 : Int)) = true ∧ (True) ∧ (((shl .u64 t78 (1 : Int)) == (0 : Int)) = true ∧ (True) ∧ (((shl .u64 t78 (1 : Int)) == (0 : Int)) = true ∧ ((((t80 == (9221120237041090560 : Int)) == ((shr .u64 a0 (63 : Int)) == (1 : Int))) = true → (∃ t82 : Bool, (Fun cfg 15 [] [] (halterlaw02_sure.R t82) [] ∧ True) ∧ (((t80 == (9221120237041090560 : Int)) == ((shr .u64 a0 (63 : Int)) == (1 : Int))) = true ∧ (True ∧ ((True) ∧ (True) ∧ (.v (.one (.sc (.bool t82))) : Tm) = halterlaw02_SoftEdges.R r ∧ ([] : List Box) = []))))) ∧ (((t80 == (9221120237041090560 : Int)) == ((shr .u64 a0 (63 : Int)) == (1 : Int))) = false → (((t80 == (9221120237041090560 : Int)) == ((shr .u64 a0 (63 : Int)) == (1 : Int))) = false ∧ (True ∧ ((True) ∧ (True) ∧ (.v (.one (.sc (.bool false))) : Tm) = halterlaw02_SoftEdges.R r ∧ ([] : List Box) = [])))))))))))))) ∧ (((shl .u64 t78 (1 : Int)) == (0 : Int)) = false → (((shl .u64 t78 (1 : Int)) == (0 : Int)) = false ∧ (((shl .u64 t78 (1 : Int)) == (0 : Int)) = false ∧ (((shl .u64 t78 (1 : Int)) == (0 : Int)) = false ∧ (((shl .u64 t78 (1 : Int)) == (0 : Int)) = false ∧ (((shl .u64 t78 (1 : Int)) == (0 : Int)) = false ∧ (((shl .u64 t78 (1 : Int)) == (0 : Int)) = false ∧ (((shl .u64 t78 (1 : Int)) == (0 : Int)) = false ∧ (false = false ∧ (false = false ∧ (True ∧ ((True) ∧ (True) ∧ (.v (.one (.sc (.bool false))) : Tm) = halterlaw02_SoftEdges.R r ∧ ([] : List Box) = [])))))))))))))))))))) ∧ ((t76 == (9218868437227405312 : Int)) = false → ((t76 == (9218868437227405312 : Int)) = false ∧ ((t76 == (9218868437227405312 : Int)) = false ∧ ((t76 == (9218868437227405312 : Int)) = false ∧ ((t76 == (9218868437227405312 : Int)) = false ∧ ((t76 == (9218868437227405312 : Int)) = false ∧ (false = false ∧ (false = false ∧ (false = false ∧ (false = false ∧ (false = false ∧ (false = false ∧ (false = false ∧ (false = false ∧ (false = false ∧ (false = false ∧ (True ∧ ((True) ∧ (True) ∧ (.v (.one (.sc (.bool false))) : Tm) = halterlaw02_SoftEdges.R r ∧ ([] : List Box) = [])))))))))))))))))))))))))) ∧ ((t74 == (18442240474082181120 : Int)) = false → ((t74 == (18442240474082181120 : Int)) = false ∧ ((t74 == (18442240474082181120 : Int)) = false ∧ ((t74 == (18442240474082181120 : Int)) = false ∧ ((t74 == (18442240474082181120 : Int)) = false ∧ ((t74 == (18442240474082181120 : Int)) = false ∧ (false = false ∧ (false = false ∧ (false = false ∧ (false = false ∧ (false = false ∧ (false = false ∧ (false = false ∧ (false = false ∧ (false = false ∧ (false = false ∧ (false = false ∧ (false = false ∧ (false = false ∧ (false = false ∧ (false = false ∧ (false = false ∧ (True ∧ ((True) ∧ (True) ∧ (.v (.one (.sc (.bool false))) : Tm) = halterlaw02_SoftEdges.R r ∧ ([] : List Box) = [])))))))))))))))))))))))))))))))) ∧ ((t72 == (18442240474082181120 : Int)) = false → ((t72 == (18442240474082181120 : Int)) = false ∧ ((t72 == (18442240474082181120 : Int)) = false ∧ ((t72 == (18442240474082181120 : Int)) = false ∧ ((t72 == (18442240474082181120 : Int)) = false ∧ ((t72 == (18442240474082181120 : Int)) = false ∧ (false = false ∧ (false = false ∧ (false = false ∧ (false = false ∧ (false = false ∧ (false = false ∧ (false = false ∧ (false = false ∧ (false = false ∧ (false = false ∧ (false = false ∧ (false = false ∧ (false = false ∧ (false = false ∧ (false = false ∧ (false = false ∧ (false = false ∧ (false = false ∧ (false = false ∧ (false = false ∧ (false = false ∧ (false = false ∧ (True ∧ ((True) ∧ (True) ∧ (.v (.one (.sc (.bool false))) : Tm) = halterlaw02_SoftEdges.R r ∧ ([] : List Box) = []))))))))))))))))))))))))))))))))) ∧ ((!(((shr .u64 a0 (63 : Int)) == (1 : Int)) == a1)) = false → (∃ t83 : Int, (Fun cfg 11 [.one (.sc (.int .u64 a0)), .one (.sc (.int .u64 (0 : Int)))] [] (soft_Div.R t83) [] ∧ True) ∧ (True) ∧ (((t83 == (9218868437227405312 : Int)) = true → ((t83 == (9218868437227405312 : Int)) = true ∧ ((t83 == (9218868437227405312 : Int)) = true ∧ (∃ t85 : Int, (Fun cfg 9 [.one (.sc (.int .u64 a0)), .one (.sc (.int .u64 (9218868437227405312 : Int)))] [] (soft_Mul.R t85) [] ∧ True) ∧ ((t83 == (9218868437227405312 : Int)) = true ∧ ((t83 == (9218868437227405312 : Int)) = true ∧ (True) ∧ ((t83 == (9218868437227405312 : Int)) = true ∧ (((t85 == (9218868437227405312 : Int)) = true → ((t85 == (9218868437227405312 : Int)) = true ∧ ((t85 == (9218868437227405312 : Int)) = true ∧ (∃ t87 : Int, (Fun cfg 16 [.one (.sc (.int .u64 a0)), .one (.sc (.int .u64 (9218868437227405312 : Int)))] [] (soft_Add.R t87) [] ∧ True) ∧ ((t85 == (9218868437227405312 : Int)) = true ∧ ((t85 == (9218868437227405312 : Int)) = true ∧ (True) ∧ ((t85 == (9218868437227405312 : Int)) = true ∧ (((t87 == (9218868437227405312 : Int)) = true → ((t87 == (9218868437227405312 : Int)) = true ∧ ((t87 == (9218868437227405312 : Int)) = true ∧ (∃ t89 : Int, (Fun cfg 11 [.one (.sc (.int .u64 a0)), .one (.sc (.int .u64 (9218868437227405312 : Int)))] [] (soft_Div.R t89) [] ∧ True) ∧ ((t87 == (9218868437227405312 : Int)) = true ∧ (0 ≤ (1 : Int)) ∧ ((t87 == (9218868437227405312 : Int)) = true ∧ (True) ∧ ((t87 == (9218868437227405312 : Int)) = true ∧ ((((shl .u64 t89 (1 : Int)) == (0 : Int)) = true → (((shl .u64 t89 (1 : Int)) == (0 : Int)) = true ∧ (∃ t91 : Int, (Fun cfg 13 [.one (.sc (.int .u64 a0))] [] (soft_Sqrt.R t91) [] ∧ True) ∧ (((shl .u64 t89 (1 : Int)) == (0 : Int)) = true ∧ (True) ∧ (((shl .u64 t89 (1 : Int)) == (0 : Int)) = true ∧ (((shl .u64 t89 (1 : Int)) == (0 : Int)) = true ∧ (0 ≤ (63 : Int)) ∧ (((shl .u64 t89 (1 : Int)) == (0 : Int)) = true ∧ (True) ∧ (((shl .u64 t89 (1 : Int)) == (0 : Int)) = true ∧ (True) ∧ (((shl .u64 t89 (1 : Int)) == (0 : Int)) = true ∧ ((((t91 == (9221120237041090560 : Int)) == ((shr .u64 a0 (63 : Int)) == (1 : Int))) = true → (∃ t93 : Bool, (Fun cfg 15 [] [] (halterlaw02_sure.R t93) [] ∧ True) ∧ (((t91 == (9221120237041090560 : Int)) == ((shr .u64 a0 (63 : Int)) == (1 : Int))) = true ∧ (True ∧ ((True) ∧ (True) ∧ (.v (.one (.sc (.bool t93))) : Tm) = halterlaw02_SoftEdges.R r ∧ ([] : List Box) = []))))) ∧ (((t91 == (9221120237041090560 : Int)) == ((shr .u64 a0 (63 : Int)) == (1 : Int))) = false → (((t91 == (9221120237041090560 : Int)) == ((shr .u64 a0 (63 : Int)) == (1 : Int))) = false ∧ (True ∧ ((True) ∧ (True) ∧ (.v (.one (.sc (.bool false))) : Tm) = halterlaw02_SoftEdges.R r ∧ ([] : List Box) = [])))))))))))))) ∧ (((shl .u64 t89 (1 : Int)) == (0 : Int)) = false → (((shl .u64 t89 (1 : Int)) == (0 : Int)) = false ∧ (((shl .u64 t89 (1 : Int)) == (0 : Int)) = false ∧ (((shl .u64 t89 (1 : Int)) == (0 : Int)) = false ∧ (((shl .u64 t89 (1 : Int)) == (0 : Int)) = false ∧ (((shl .u64 t89 (1 : Int)) == (0 : Int)) = false ∧ (((shl .u64 t89 (1 : Int)) == (0 : Int)) = false ∧ (((shl .u64 t89 (1 : Int)) == (0 : Int)) = false ∧ (false = false ∧ (false = false ∧ (True ∧ ((True) ∧ (True) ∧ (.v (.one (.sc (.bool false))) : Tm) = halterlaw02_SoftEdges.R r ∧ ([] : List Box) = [])))))))))))))))))))) ∧ ((t87 == (9218868437227405312 : Int)) = false → ((t87 == (9218868437227405312 : Int)) = false ∧ ((t87 == (9218868437227405312 : Int)) = false ∧ ((t87 == (9218868437227405312 : Int)) = false ∧ ((t87 == (9218868437227405312 : Int)) = false ∧ ((t87 == (9218868437227405312 : Int)) = false ∧ (false = false ∧ (false = false ∧ (false = false ∧ (false = false ∧ (false = false ∧ (false = false ∧ (false = false ∧ (false = false ∧ (false = false ∧ (false = false ∧ (True ∧ ((True) ∧ (True) ∧ (.v (.one (.sc (.bool false))) : Tm) = halterlaw02_SoftEdges.R r ∧ ([] : List Box) = [])))))))))))))))))))))))))) ∧ ((t85 == (9218868437227405312 : Int)) = false → ((t85 == (9218868437227405312 : Int)) = false ∧ ((t85 == (9218868437227405312 : Int)) = false ∧ ((t85 == (9218868437227405312 : Int)) = false ∧ ((t85 == (9218868437227405312 : Int)) = false ∧ ((t85 == (9218868437227405312 : Int)) = false ∧ (false = false ∧ (false = false ∧ (false = false ∧ (false = false ∧ (false = false ∧ (false = false ∧ (false = false ∧ (false = false ∧ (false = false ∧ (false = false ∧ (false = false ∧ (false = false ∧ (false = false ∧ (false = false ∧ (false = false ∧ (false = false ∧ (True ∧ ((True) ∧ (True) ∧ (.v (.one (.sc (.bool false))) : Tm) = halterlaw02_SoftEdges.R r ∧ ([] : List Box) = [])))))))))))))))))))))))))))))))) ∧ ((t83 == (9218868437227405312 : Int)) = false → ((t83 == (9218868437227405312 : Int)) = false ∧ ((t83 == (9218868437227405312 : Int)) = false ∧ ((t83 == (9218868437227405312 : Int)) = false ∧ ((t83 == (9218868437227405312 : Int)) = false ∧ ((t83 == (9218868437227405312 : Int)) = false ∧ (false = false ∧ (false = false ∧ (false = false ∧ (false = false ∧ (false = false ∧ (false = false ∧ (false = false ∧ (false = false ∧ (false = false ∧ (false = false ∧ (false = false ∧ (false = false ∧ (false = false ∧ (false = false ∧ (false = false ∧ (false = false ∧ (false = false ∧ (false = false ∧ (false = false ∧ (false = false ∧ (false = false ∧ (false = false ∧ (True ∧ ((True) ∧ (True) ∧ (.v (.one (.sc (.bool false))) : Tm) = halterlaw02_SoftEdges.R r ∧ ([] : List Box) = [])))))))))))))))))))))))))))))))))))))))))))))))))) ∧ ((t56 != (0 : Int)) = true → ((t56 != (0 : Int)) = true ∧ ((t56 != (0 : Int)) = true ∧ ((t56 != (0 : Int)) = true ∧ ((t56 != (0 : Int)) = true ∧ ((t56 != (0 : Int)) = true ∧ (true = true ∧ (True ∧ (True ∧ ((True) ∧ (True) ∧ (.v (.one (.sc (.bool false))) : Tm) = halterlaw02_SoftEdges.R r ∧ ([] : List Box) = []))))))))))))))))) ∧ ((t54 != (9221120237041090560 : Int)) = true → ((t54 != (9221120237041090560 : Int)) = true ∧ ((t54 != (9221120237041090560 : Int)) = true ∧ ((t54 != (9221120237041090560 : Int)) = true ∧ ((t54 != (9221120237041090560 : Int)) = true ∧ (true = true ∧ (true = true ∧ (true = true ∧ (true = true ∧ (true = true ∧ (true = true ∧ (true = true ∧ (True ∧ (True ∧ ((True) ∧ (True) ∧ (.v (.one (.sc (.bool false))) : Tm) = halterlaw02_SoftEdges.R r ∧ ([] : List Box) = [])))))))))))))))))))))) ∧ ((t52 != (9221120237041090560 : Int)) = true → ((t52 != (9221120237041090560 : Int)) = true ∧ ((t52 != (9221120237041090560 : Int)) = true ∧ ((t52 != (9221120237041090560 : Int)) = true ∧ ((t52 != (9221120237041090560 : Int)) = true ∧ (true = true ∧ (true = true ∧ (true = true ∧ (true = true ∧ (true = true ∧ (true = true ∧ (true = true ∧ (true = true ∧ (true = true ∧ (true = true ∧ (true = true ∧ (true = true ∧ (True ∧ (True ∧ ((True) ∧ (True) ∧ (.v (.one (.sc (.bool false))) : Tm) = halterlaw02_SoftEdges.R r ∧ ([] : List Box) = []))))))))))))))))))))))))))) ∧ ((t50 != (9221120237041090560 : Int)) = true → ((t50 != (9221120237041090560 : Int)) = true ∧ ((t50 != (9221120237041090560 : Int)) = true ∧ ((t50 != (9221120237041090560 : Int)) = true ∧ ((t50 != (9221120237041090560 : Int)) = true ∧ (true = true ∧ (true = true ∧ (true = true ∧ (true = true ∧ (true = true ∧ (true = true ∧ (true = true ∧ (true = true ∧ (true = true ∧ (true = true ∧ (true = true ∧ (true = true ∧ (true = true ∧ (true = true ∧ (true = true ∧ (true = true ∧ (true = true ∧ (True ∧ (True ∧ ((True) ∧ (True) ∧ (.v (.one (.sc (.bool false))) : Tm) = halterlaw02_SoftEdges.R r ∧ ([] : List Box) = [])))))))))))))))))))))))))))))))) ∧ ((t48 != (9221120237041090560 : Int)) = true → ((t48 != (9221120237041090560 : Int)) = true ∧ ((t48 != (9221120237041090560 : Int)) = true ∧ ((t48 != (9221120237041090560 : Int)) = true ∧ ((t48 != (9221120237041090560 : Int)) = true ∧ (true = true ∧ (true = true ∧ (true = true ∧ (true = true ∧ (true = true ∧ (true = true ∧ (true = true ∧ (true = true ∧ (true = true ∧ (true = true ∧ (true = true ∧ (true = true ∧ (true = true ∧ (true = true ∧ (true = true ∧ (true = true ∧ (true = true ∧ (true = true ∧ (true = true ∧ (true = true ∧ (true = true ∧ (true = true ∧ (True ∧ (True ∧ ((True) ∧ (True) ∧ (.v (.one (.sc (.bool false))) : Tm) = halterlaw02_SoftEdges.R r ∧ ([] : List Box) = []))))))))))))))))))))))))))))))))))) (by kernel_rfl) ?_)
  refine ⟨fun b1 => ?_, fun b1 => ?_⟩
  · rw [if_pos b1] at h
    obtain ⟨t2, ht2, h⟩ := of_bind h
    refine ⟨t2, ⟨soft_Mul.fun_ ht2, trivial⟩, ?_⟩
    refine ⟨trivial, ?_⟩
    refine ⟨fun b3 => ?_, fun b3 => ?_⟩
    · rw [if_neg (not_not_intro (bne_f b3))] at h
      refine ⟨b3, ?_⟩
      refine ⟨b3, ?_⟩
      obtain ⟨t4, ht4, h⟩ := of_bind h
      refine ⟨t4, ⟨soft_Sub.fun_ ht4, trivial⟩, ?_⟩
      refine ⟨b3, ?_⟩
      refine ⟨trivial, ?_⟩
      refine ⟨b3, ?_⟩
      refine ⟨fun b5 => ?_, fun b5 => ?_⟩
      · rw [if_neg (not_not_intro (bne_f b5))] at h
        refine ⟨b5, ?_⟩
        refine ⟨b5, ?_⟩
        obtain ⟨t6, ht6, h⟩ := of_bind h
        refine ⟨t6, ⟨soft_Div.fun_ ht6, trivial⟩, ?_⟩
        refine ⟨b5, ?_⟩
        refine ⟨trivial, ?_⟩
        refine ⟨b5, ?_⟩
        refine ⟨fun b7 => ?_, fun b7 => ?_⟩
        · rw [if_neg (not_not_intro (bne_f b7))] at h
          refine ⟨b7, ?_⟩
          refine ⟨b7, ?_⟩
          obtain ⟨t8, ht8, h⟩ := of_bind h
          refine ⟨t8, ⟨soft_Div.fun_ ht8, trivial⟩, ?_⟩
          refine ⟨b7, ?_⟩
          refine ⟨trivial, ?_⟩
          refine ⟨b7, ?_⟩
          refine ⟨fun b9 => ?_, fun b9 => ?_⟩
          · rw [if_neg (not_not_intro (bne_f b9))] at h
            refine ⟨b9, ?_⟩
            obtain ⟨t10, ht10, h⟩ := of_bind h
            refine ⟨t10, ⟨soft_Sqrt.fun_ ht10, trivial⟩, ?_⟩
            refine ⟨b9, ?_⟩
            refine ⟨b9, ?_⟩
            refine ⟨trivial, ?_⟩
            refine ⟨b9, ?_⟩
            refine ⟨fun b11 => ?_, fun b11 => ?_⟩
            · rw [if_neg (not_not_intro (bne_f b11))] at h
              refine ⟨b11, ?_⟩
              obtain ⟨t12, ht12, h⟩ := of_bind h
              refine ⟨t12, ⟨soft_Sqrt.fun_ ht12, trivial⟩, ?_⟩
              refine ⟨b11, ?_⟩
              refine ⟨trivial, ?_⟩
              refine ⟨b11, ?_⟩
              refine ⟨b11, ?_⟩
              refine ⟨trivial, ?_⟩
              refine ⟨b11, ?_⟩
              refine ⟨fun b13 => ?_, fun b13 => ?_⟩
              · rw [if_pos (bb_f (not_t b13))] at h
                refine ⟨trivial, ?_⟩
                refine ⟨trivial, ?_⟩
                obtain rfl := Option.some.inj h
                exact ⟨trivial, trivial, rfl, rfl⟩
              · rw [if_neg (not_not_intro (bb_t (not_f b13)))] at h
                obtain ⟨t14, ht14, h⟩ := of_bind h
                refine ⟨t14, ⟨soft_Class.fun_ ht14, trivial⟩, ?_⟩
                refine ⟨trivial, ?_⟩
                refine ⟨fun b15 => ?_, fun b15 => ?_⟩
                · rw [if_pos (beq_t b15)] at h
                  refine ⟨b15, ?_⟩
                  obtain ⟨t16, ht16, h⟩ := of_bind h
                  refine ⟨t16, ⟨halterlaw02_sure.fun_ ht16, trivial⟩, ?_⟩
                  refine ⟨trivial, ?_⟩
                  obtain rfl := Option.some.inj h
                  exact ⟨trivial, trivial, rfl, rfl⟩
                · rw [if_neg (beq_f b15)] at h
                  refine ⟨trivial, ?_⟩
                  refine ⟨fun b17 => ?_, fun b17 => ?_⟩
                  · rw [if_pos (beq_t b17)] at h
                    obtain ⟨t18, ht18, h⟩ := of_bind h
                    refine ⟨t18, ⟨halterlaw02_sure.fun_ ht18, trivial⟩, ?_⟩
                    refine ⟨trivial, ?_⟩
                    obtain rfl := Option.some.inj h
                    exact ⟨trivial, trivial, rfl, rfl⟩
                  · rw [if_neg (beq_f b17)] at h
                    refine ⟨trivial, ?_⟩
                    refine ⟨fun b19 => ?_, fun b19 => ?_⟩
                    · rw [if_pos (beq_t b19)] at h
                      obtain ⟨t20, ht20, h⟩ := of_bind h
                      refine ⟨t20, ⟨soft_Add.fun_ ht20, trivial⟩, ?_⟩
                      refine ⟨trivial, ?_⟩
                      refine ⟨fun b21 => ?_, fun b21 => ?_⟩
                      · rw [if_pos (beq_t b21)] at h
                        refine ⟨b21, ?_⟩
                        refine ⟨b21, ?_⟩
                        obtain ⟨t22, ht22, h⟩ := of_bind h
                        refine ⟨t22, ⟨soft_Cmp.fun_ ht22, trivial⟩, ?_⟩
                        refine ⟨b21, ?_⟩
                        refine ⟨trivial, ?_⟩
                        refine ⟨b21, ?_⟩
                        refine ⟨fun b23 => ?_, fun b23 => ?_⟩
                        · rw [if_pos (beq_t b23)] at h
                          obtain ⟨t24, ht24, h⟩ := of_bind h
                          refine ⟨t24, ⟨halterlaw02_sure.fun_ ht24, trivial⟩, ?_⟩
                          refine ⟨b23, ?_⟩
                          refine ⟨trivial, ?_⟩
                          obtain rfl := Option.some.inj h
                          exact ⟨trivial, trivial, rfl, rfl⟩
                        · rw [if_neg (beq_f b23)] at h
                          refine ⟨b23, ?_⟩
                          refine ⟨trivial, ?_⟩
                          obtain rfl := Option.some.inj h
                          exact ⟨trivial, trivial, rfl, rfl⟩
                      · rw [if_neg (beq_f b21)] at h
                        refine ⟨b21, ?_⟩
                        refine ⟨b21, ?_⟩
                        refine ⟨b21, ?_⟩
                        refine ⟨b21, ?_⟩
                        refine ⟨rfl, ?_⟩
                        refine ⟨rfl, ?_⟩
                        refine ⟨trivial, ?_⟩
                        obtain rfl := Option.some.inj h
                        exact ⟨trivial, trivial, rfl, rfl⟩
                    · rw [if_neg (beq_f b19)] at h
                      refine ⟨(by decide), ?_⟩
                      refine ⟨trivial, ?_⟩
                      refine ⟨trivial, ?_⟩
                      refine ⟨fun b25 => ?_, fun b25 => ?_⟩
                      · rw [if_pos (bb_f (not_t b25))] at h
                        obtain ⟨t26, ht26, h⟩ := of_bind h
                        refine ⟨t26, ⟨soft_Div.fun_ ht26, trivial⟩, ?_⟩
                        refine ⟨trivial, ?_⟩
                        refine ⟨fun b27 => ?_, fun b27 => ?_⟩
                        · rw [if_pos (beq_t b27)] at h
                          refine ⟨b27, ?_⟩
                          refine ⟨b27, ?_⟩
                          obtain ⟨t28, ht28, h⟩ := of_bind h
                          refine ⟨t28, ⟨soft_Mul.fun_ ht28, trivial⟩, ?_⟩
                          refine ⟨b27, ?_⟩
                          refine ⟨b27, ?_⟩
                          refine ⟨trivial, ?_⟩
                          refine ⟨b27, ?_⟩
                          refine ⟨fun b29 => ?_, fun b29 => ?_⟩
                          · rw [if_pos (beq_t b29)] at h
                            refine ⟨b29, ?_⟩
                            refine ⟨b29, ?_⟩
                            obtain ⟨t30, ht30, h⟩ := of_bind h
                            refine ⟨t30, ⟨soft_Add.fun_ ht30, trivial⟩, ?_⟩
                            refine ⟨b29, ?_⟩
                            refine ⟨b29, ?_⟩
                            refine ⟨trivial, ?_⟩
                            refine ⟨b29, ?_⟩
                            refine ⟨fun b31 => ?_, fun b31 => ?_⟩
                            · rw [if_pos (beq_t b31)] at h
                              refine ⟨b31, ?_⟩
                              refine ⟨b31, ?_⟩
                              obtain ⟨t32, ht32, h⟩ := of_bind h
                              refine ⟨t32, ⟨soft_Div.fun_ ht32, trivial⟩, ?_⟩
                              refine ⟨b31, ?_⟩
                              refine ⟨(by decide), ?_⟩
                              refine ⟨b31, ?_⟩
                              refine ⟨trivial, ?_⟩
                              refine ⟨b31, ?_⟩
                              refine ⟨fun b33 => ?_, fun b33 => ?_⟩
                              · rw [if_pos (beq_t b33)] at h
                                refine ⟨b33, ?_⟩
                                obtain ⟨t34, ht34, h⟩ := of_bind h
                                refine ⟨t34, ⟨soft_Sqrt.fun_ ht34, trivial⟩, ?_⟩
                                refine ⟨b33, ?_⟩
                                refine ⟨trivial, ?_⟩
                                refine ⟨b33, ?_⟩
                                refine ⟨b33, ?_⟩
                                refine ⟨(by decide), ?_⟩
                                refine ⟨b33, ?_⟩
                                refine ⟨trivial, ?_⟩
                                refine ⟨b33, ?_⟩
                                refine ⟨trivial, ?_⟩
                                refine ⟨b33, ?_⟩
                                refine ⟨fun b35 => ?_, fun b35 => ?_⟩
                                · rw [if_pos (bb_t b35)] at h
                                  obtain ⟨t36, ht36, h⟩ := of_bind h
                                  refine ⟨t36, ⟨halterlaw02_sure.fun_ ht36, trivial⟩, ?_⟩
                                  refine ⟨b35, ?_⟩
                                  refine ⟨trivial, ?_⟩
                                  obtain rfl := Option.some.inj h
                                  exact ⟨trivial, trivial, rfl, rfl⟩
                                · rw [if_neg (bb_f b35)] at h
                                  refine ⟨b35, ?_⟩
                                  refine ⟨trivial, ?_⟩
                                  obtain rfl := Option.some.inj h
                                  exact ⟨trivial, trivial, rfl, rfl⟩
                              · rw [if_neg (beq_f b33)] at h
                                refine ⟨b33, ?_⟩
                                refine ⟨b33, ?_⟩
                                refine ⟨b33, ?_⟩
                                refine ⟨b33, ?_⟩
                                refine ⟨b33, ?_⟩
                                refine ⟨b33, ?_⟩
                                refine ⟨b33, ?_⟩
                                refine ⟨rfl, ?_⟩
                                refine ⟨rfl, ?_⟩
                                refine ⟨trivial, ?_⟩
                                obtain rfl := Option.some.inj h
                                exact ⟨trivial, trivial, rfl, rfl⟩
                            · rw [if_neg (beq_f b31)] at h
                              refine ⟨b31, ?_⟩
                              refine ⟨b31, ?_⟩
                              refine ⟨b31, ?_⟩
                              refine ⟨b31, ?_⟩
                              refine ⟨b31, ?_⟩
                              refine ⟨rfl, ?_⟩
                              refine ⟨rfl, ?_⟩
                              refine ⟨rfl, ?_⟩
                              refine ⟨rfl, ?_⟩
                              refine ⟨rfl, ?_⟩
                              refine ⟨rfl, ?_⟩
                              refine ⟨rfl, ?_⟩
                              refine ⟨rfl, ?_⟩
                              refine ⟨rfl, ?_⟩
                              refine ⟨rfl, ?_⟩
                              refine ⟨trivial, ?_⟩
                              obtain rfl := Option.some.inj h
                              exact ⟨trivial, trivial, rfl, rfl⟩
                          · rw [if_neg (beq_f b29)] at h
                            refine ⟨b29, ?_⟩
                            refine ⟨b29, ?_⟩
                            refine ⟨b29, ?_⟩
                            refine ⟨b29, ?_⟩
                            refine ⟨b29, ?_⟩
                            refine ⟨rfl, ?_⟩
                            refine ⟨rfl, ?_⟩
                            refine ⟨rfl, ?_⟩
                            refine ⟨rfl, ?_⟩
                            refine ⟨rfl, ?_⟩
                            refine ⟨rfl, ?_⟩
                            refine ⟨rfl, ?_⟩
                            refine ⟨rfl, ?_⟩
                            refine ⟨rfl, ?_⟩
                            refine ⟨rfl, ?_⟩
                            refine ⟨rfl, ?_⟩
                            refine ⟨rfl, ?_⟩
                            refine ⟨rfl, ?_⟩
                            refine ⟨rfl, ?_⟩
                            refine ⟨rfl, ?_⟩
                            refine ⟨rfl, ?_⟩
                            refine ⟨trivial, ?_⟩
                            obtain rfl := Option.some.inj h
                            exact ⟨trivial, trivial, rfl, rfl⟩
                        · rw [if_neg (beq_f b27)] at h
                          refine ⟨b27, ?_⟩
                          refine ⟨b27, ?_⟩
                          refine ⟨b27, ?_⟩
                          refine ⟨b27, ?_⟩
                          refine ⟨b27, ?_⟩
                          refine ⟨rfl, ?_⟩
                          refine ⟨rfl, ?_⟩
                          refine ⟨rfl, ?_⟩
                          refine ⟨rfl, ?_⟩
                          refine ⟨rfl, ?_⟩
                          refine ⟨rfl, ?_⟩
                          refine ⟨rfl, ?_⟩
                          refine ⟨rfl, ?_⟩
                          refine ⟨rfl, ?_⟩
                          refine ⟨rfl, ?_⟩
                          refine ⟨rfl, ?_⟩
                          refine ⟨rfl, ?_⟩
                          refine ⟨rfl, ?_⟩
                          refine ⟨rfl, ?_⟩
                          refine ⟨rfl, ?_⟩
                          refine ⟨rfl, ?_⟩
                          refine ⟨rfl, ?_⟩
                          refine ⟨rfl, ?_⟩
                          refine ⟨rfl, ?_⟩
                          refine ⟨rfl, ?_⟩
                          refine ⟨rfl, ?_⟩
                          refine ⟨rfl, ?_⟩
                          refine ⟨trivial, ?_⟩
                          obtain rfl := Option.some.inj h
                          exact ⟨trivial, trivial, rfl, rfl⟩
                      · rw [if_neg (not_not_intro (bb_t (not_f b25)))] at h
                        obtain ⟨t37, ht37, h⟩ := of_bind h
                        refine ⟨t37, ⟨soft_Div.fun_ ht37, trivial⟩, ?_⟩
                        refine ⟨trivial, ?_⟩
                        refine ⟨fun b38 => ?_, fun b38 => ?_⟩
                        · rw [if_pos (beq_t b38)] at h
                          refine ⟨b38, ?_⟩
                          refine ⟨b38, ?_⟩
                          obtain ⟨t39, ht39, h⟩ := of_bind h
                          refine ⟨t39, ⟨soft_Mul.fun_ ht39, trivial⟩, ?_⟩
                          refine ⟨b38, ?_⟩
                          refine ⟨b38, ?_⟩
                          refine ⟨trivial, ?_⟩
                          refine ⟨b38, ?_⟩
                          refine ⟨fun b40 => ?_, fun b40 => ?_⟩
                          · rw [if_pos (beq_t b40)] at h
                            refine ⟨b40, ?_⟩
                            refine ⟨b40, ?_⟩
                            obtain ⟨t41, ht41, h⟩ := of_bind h
                            refine ⟨t41, ⟨soft_Add.fun_ ht41, trivial⟩, ?_⟩
                            refine ⟨b40, ?_⟩
                            refine ⟨b40, ?_⟩
                            refine ⟨trivial, ?_⟩
                            refine ⟨b40, ?_⟩
                            refine ⟨fun b42 => ?_, fun b42 => ?_⟩
                            · rw [if_pos (beq_t b42)] at h
                              refine ⟨b42, ?_⟩
                              refine ⟨b42, ?_⟩
                              obtain ⟨t43, ht43, h⟩ := of_bind h
                              refine ⟨t43, ⟨soft_Div.fun_ ht43, trivial⟩, ?_⟩
                              refine ⟨b42, ?_⟩
                              refine ⟨(by decide), ?_⟩
                              refine ⟨b42, ?_⟩
                              refine ⟨trivial, ?_⟩
                              refine ⟨b42, ?_⟩
                              refine ⟨fun b44 => ?_, fun b44 => ?_⟩
                              · rw [if_pos (beq_t b44)] at h
                                refine ⟨b44, ?_⟩
                                obtain ⟨t45, ht45, h⟩ := of_bind h
                                refine ⟨t45, ⟨soft_Sqrt.fun_ ht45, trivial⟩, ?_⟩
                                refine ⟨b44, ?_⟩
                                refine ⟨trivial, ?_⟩
                                refine ⟨b44, ?_⟩
                                refine ⟨b44, ?_⟩
                                refine ⟨(by decide), ?_⟩
                                refine ⟨b44, ?_⟩
                                refine ⟨trivial, ?_⟩
                                refine ⟨b44, ?_⟩
                                refine ⟨trivial, ?_⟩
                                refine ⟨b44, ?_⟩
                                refine ⟨fun b46 => ?_, fun b46 => ?_⟩
                                · rw [if_pos (bb_t b46)] at h
                                  obtain ⟨t47, ht47, h⟩ := of_bind h
                                  refine ⟨t47, ⟨halterlaw02_sure.fun_ ht47, trivial⟩, ?_⟩
                                  refine ⟨b46, ?_⟩
                                  refine ⟨trivial, ?_⟩
                                  obtain rfl := Option.some.inj h
                                  exact ⟨trivial, trivial, rfl, rfl⟩
                                · rw [if_neg (bb_f b46)] at h
                                  refine ⟨b46, ?_⟩
                                  refine ⟨trivial, ?_⟩
                                  obtain rfl := Option.some.inj h
                                  exact ⟨trivial, trivial, rfl, rfl⟩
                              · rw [if_neg (beq_f b44)] at h
                                refine ⟨b44, ?_⟩
                                refine ⟨b44, ?_⟩
                                refine ⟨b44, ?_⟩
                                refine ⟨b44, ?_⟩
                                refine ⟨b44, ?_⟩
                                refine ⟨b44, ?_⟩
                                refine ⟨b44, ?_⟩
                                refine ⟨rfl, ?_⟩
                                refine ⟨rfl, ?_⟩
                                refine ⟨trivial, ?_⟩
                                obtain rfl := Option.some.inj h
                                exact ⟨trivial, trivial, rfl, rfl⟩
                            · rw [if_neg (beq_f b42)] at h
                              refine ⟨b42, ?_⟩
                              refine ⟨b42, ?_⟩
                              refine ⟨b42, ?_⟩
                              refine ⟨b42, ?_⟩
                              refine ⟨b42, ?_⟩
                              refine ⟨rfl, ?_⟩
                              refine ⟨rfl, ?_⟩
                              refine ⟨rfl, ?_⟩
                              refine ⟨rfl, ?_⟩
                              refine ⟨rfl, ?_⟩
                              refine ⟨rfl, ?_⟩
                              refine ⟨rfl, ?_⟩
                              refine ⟨rfl, ?_⟩
                              refine ⟨rfl, ?_⟩
                              refine ⟨rfl, ?_⟩
                              refine ⟨trivial, ?_⟩
                              obtain rfl := Option.some.inj h
                              exact ⟨trivial, trivial, rfl, rfl⟩
                          · rw [if_neg (beq_f b40)] at h
                            refine ⟨b40, ?_⟩
                            refine ⟨b40, ?_⟩
                            refine ⟨b40, ?_⟩
                            refine ⟨b40, ?_⟩
                            refine ⟨b40, ?_⟩
                            refine ⟨rfl, ?_⟩
                            refine ⟨rfl, ?_⟩
                            refine ⟨rfl, ?_⟩
                            refine ⟨rfl, ?_⟩
                            refine ⟨rfl, ?_⟩
                            refine ⟨rfl, ?_⟩
                            refine ⟨rfl, ?_⟩
                            refine ⟨rfl, ?_⟩
                            refine ⟨rfl, ?_⟩
                            refine ⟨rfl, ?_⟩
                            refine ⟨rfl, ?_⟩
                            refine ⟨rfl, ?_⟩
                            refine ⟨rfl, ?_⟩
                            refine ⟨rfl, ?_⟩
                            refine ⟨rfl, ?_⟩
                            refine ⟨rfl, ?_⟩
                            refine ⟨trivial, ?_⟩
                            obtain rfl := Option.some.inj h
                            exact ⟨trivial, trivial, rfl, rfl⟩
                        · rw [if_neg (beq_f b38)] at h
                          refine ⟨b38, ?_⟩
                          refine ⟨b38, ?_⟩
                          refine ⟨b38, ?_⟩
                          refine ⟨b38, ?_⟩
                          refine ⟨b38, ?_⟩
                          refine ⟨rfl, ?_⟩
                          refine ⟨rfl, ?_⟩
                          refine ⟨rfl, ?_⟩
                          refine ⟨rfl, ?_⟩
                          refine ⟨rfl, ?_⟩
                          refine ⟨rfl, ?_⟩
                          refine ⟨rfl, ?_⟩
                          refine ⟨rfl, ?_⟩
                          refine ⟨rfl, ?_⟩
                          refine ⟨rfl, ?_⟩
                          refine ⟨rfl, ?_⟩
                          refine ⟨rfl, ?_⟩
                          refine ⟨rfl, ?_⟩
                          refine ⟨rfl, ?_⟩
                          refine ⟨rfl, ?_⟩
                          refine ⟨rfl, ?_⟩
                          refine ⟨rfl, ?_⟩
                          refine ⟨rfl, ?_⟩
                          refine ⟨rfl, ?_⟩
                          refine ⟨rfl, ?_⟩
                          refine ⟨rfl, ?_⟩
                          refine ⟨rfl, ?_⟩
                          refine ⟨trivial, ?_⟩
                          obtain rfl := Option.some.inj h
                          exact ⟨trivial, trivial, rfl, rfl⟩
            · rw [if_pos (bne_t b11)] at h
              refine ⟨b11, ?_⟩
              refine ⟨b11, ?_⟩
              refine ⟨b11, ?_⟩
              refine ⟨b11, ?_⟩
              refine ⟨b11, ?_⟩
              refine ⟨rfl, ?_⟩
              refine ⟨trivial, ?_⟩
              refine ⟨trivial, ?_⟩
              obtain rfl := Option.some.inj h
              exact ⟨trivial, trivial, rfl, rfl⟩
          · rw [if_pos (bne_t b9)] at h
            refine ⟨b9, ?_⟩
            refine ⟨b9, ?_⟩
            refine ⟨b9, ?_⟩
            refine ⟨b9, ?_⟩
            refine ⟨rfl, ?_⟩
            refine ⟨rfl, ?_⟩
            refine ⟨rfl, ?_⟩
            refine ⟨rfl, ?_⟩
            refine ⟨rfl, ?_⟩
            refine ⟨rfl, ?_⟩
            refine ⟨rfl, ?_⟩
            refine ⟨trivial, ?_⟩
            refine ⟨trivial, ?_⟩
            obtain rfl := Option.some.inj h
            exact ⟨trivial, trivial, rfl, rfl⟩
        · rw [if_pos (bne_t b7)] at h
          refine ⟨b7, ?_⟩
          refine ⟨b7, ?_⟩
          refine ⟨b7, ?_⟩
          refine ⟨b7, ?_⟩
          refine ⟨rfl, ?_⟩
          refine ⟨rfl, ?_⟩
          refine ⟨rfl, ?_⟩
          refine ⟨rfl, ?_⟩
          refine ⟨rfl, ?_⟩
          refine ⟨rfl, ?_⟩
          refine ⟨rfl, ?_⟩
          refine ⟨rfl, ?_⟩
          refine ⟨rfl, ?_⟩
          refine ⟨rfl, ?_⟩
          refine ⟨rfl, ?_⟩
          refine ⟨rfl, ?_⟩
          refine ⟨trivial, ?_⟩
          refine ⟨trivial, ?_⟩
          obtain rfl := Option.some.inj h
          exact ⟨trivial, trivial, rfl, rfl⟩
      · rw [if_pos (bne_t b5)] at h
        refine ⟨b5, ?_⟩
        refine ⟨b5, ?_⟩
        refine ⟨b5, ?_⟩
        refine ⟨b5, ?_⟩
        refine ⟨rfl, ?_⟩
        refine ⟨rfl, ?_⟩
        refine ⟨rfl, ?_⟩
        refine ⟨rfl, ?_⟩
        refine ⟨rfl, ?_⟩
        refine ⟨rfl, ?_⟩
        refine ⟨rfl, ?_⟩
        refine ⟨rfl, ?_⟩
        refine ⟨rfl, ?_⟩
        refine ⟨rfl, ?_⟩
        refine ⟨rfl, ?_⟩
        refine ⟨rfl, ?_⟩
        refine ⟨rfl, ?_⟩
        refine ⟨rfl, ?_⟩
        refine ⟨rfl, ?_⟩
        refine ⟨rfl, ?_⟩
        refine ⟨rfl, ?_⟩
        refine ⟨trivial, ?_⟩
        refine ⟨trivial, ?_⟩
        obtain rfl := Option.some.inj h
        exact ⟨trivial, trivial, rfl, rfl⟩
    · rw [if_pos (bne_t b3)] at h
      refine ⟨b3, ?_⟩
      refine ⟨b3, ?_⟩
      refine ⟨b3, ?_⟩
      refine ⟨b3, ?_⟩
      refine ⟨rfl, ?_⟩
      refine ⟨rfl, ?_⟩
      refine ⟨rfl, ?_⟩
      refine ⟨rfl, ?_⟩
      refine ⟨rfl, ?_⟩
      refine ⟨rfl, ?_⟩
      refine ⟨rfl, ?_⟩
      refine ⟨rfl, ?_⟩
      refine ⟨rfl, ?_⟩
      refine ⟨rfl, ?_⟩
      refine ⟨rfl, ?_⟩
      refine ⟨rfl, ?_⟩
      refine ⟨rfl, ?_⟩
      refine ⟨rfl, ?_⟩
      refine ⟨rfl, ?_⟩
      refine ⟨rfl, ?_⟩
      refine ⟨rfl, ?_⟩
      refine ⟨rfl, ?_⟩
      refine ⟨rfl, ?_⟩
      refine ⟨rfl, ?_⟩
      refine ⟨rfl, ?_⟩
      refine ⟨rfl, ?_⟩
      refine ⟨trivial, ?_⟩
      refine ⟨trivial, ?_⟩
      obtain rfl := Option.some.inj h
      exact ⟨trivial, trivial, rfl, rfl⟩
  · rw [if_neg (ff b1)] at h
    obtain ⟨t48, ht48, h⟩ := of_bind h
    refine ⟨t48, ⟨soft_Mul.fun_ ht48, trivial⟩, ?_⟩
    refine ⟨trivial, ?_⟩
    refine ⟨fun b49 => ?_, fun b49 => ?_⟩
    · rw [if_neg (not_not_intro (bne_f b49))] at h
      refine ⟨b49, ?_⟩
      refine ⟨b49, ?_⟩
      obtain ⟨t50, ht50, h⟩ := of_bind h
      refine ⟨t50, ⟨soft_Sub.fun_ ht50, trivial⟩, ?_⟩
      refine ⟨b49, ?_⟩
      refine ⟨trivial, ?_⟩
      refine ⟨b49, ?_⟩
      refine ⟨fun b51 => ?_, fun b51 => ?_⟩
      · rw [if_neg (not_not_intro (bne_f b51))] at h
        refine ⟨b51, ?_⟩
        refine ⟨b51, ?_⟩
        obtain ⟨t52, ht52, h⟩ := of_bind h
        refine ⟨t52, ⟨soft_Div.fun_ ht52, trivial⟩, ?_⟩
        refine ⟨b51, ?_⟩
        refine ⟨trivial, ?_⟩
        refine ⟨b51, ?_⟩
        refine ⟨fun b53 => ?_, fun b53 => ?_⟩
        · rw [if_neg (not_not_intro (bne_f b53))] at h
          refine ⟨b53, ?_⟩
          refine ⟨b53, ?_⟩
          obtain ⟨t54, ht54, h⟩ := of_bind h
          refine ⟨t54, ⟨soft_Div.fun_ ht54, trivial⟩, ?_⟩
          refine ⟨b53, ?_⟩
          refine ⟨trivial, ?_⟩
          refine ⟨b53, ?_⟩
          refine ⟨fun b55 => ?_, fun b55 => ?_⟩
          · rw [if_neg (not_not_intro (bne_f b55))] at h
            refine ⟨b55, ?_⟩
            obtain ⟨t56, ht56, h⟩ := of_bind h
            refine ⟨t56, ⟨soft_Sqrt.fun_ ht56, trivial⟩, ?_⟩
            refine ⟨b55, ?_⟩
            refine ⟨b55, ?_⟩
            refine ⟨trivial, ?_⟩
            refine ⟨b55, ?_⟩
            refine ⟨fun b57 => ?_, fun b57 => ?_⟩
            · rw [if_neg (not_not_intro (bne_f b57))] at h
              refine ⟨b57, ?_⟩
              obtain ⟨t58, ht58, h⟩ := of_bind h
              refine ⟨t58, ⟨soft_Sqrt.fun_ ht58, trivial⟩, ?_⟩
              refine ⟨b57, ?_⟩
              refine ⟨trivial, ?_⟩
              refine ⟨b57, ?_⟩
              refine ⟨b57, ?_⟩
              refine ⟨trivial, ?_⟩
              refine ⟨b57, ?_⟩
              refine ⟨fun b59 => ?_, fun b59 => ?_⟩
              · rw [if_pos (bb_f (not_t b59))] at h
                refine ⟨trivial, ?_⟩
                refine ⟨trivial, ?_⟩
                obtain rfl := Option.some.inj h
                exact ⟨trivial, trivial, rfl, rfl⟩
              · rw [if_neg (not_not_intro (bb_t (not_f b59)))] at h
                obtain ⟨t60, ht60, h⟩ := of_bind h
                refine ⟨t60, ⟨soft_Class.fun_ ht60, trivial⟩, ?_⟩
                refine ⟨trivial, ?_⟩
                refine ⟨fun b61 => ?_, fun b61 => ?_⟩
                · rw [if_pos (beq_t b61)] at h
                  refine ⟨b61, ?_⟩
                  obtain ⟨t62, ht62, h⟩ := of_bind h
                  refine ⟨t62, ⟨halterlaw02_sure.fun_ ht62, trivial⟩, ?_⟩
                  refine ⟨trivial, ?_⟩
                  obtain rfl := Option.some.inj h
                  exact ⟨trivial, trivial, rfl, rfl⟩
                · rw [if_neg (beq_f b61)] at h
                  refine ⟨trivial, ?_⟩
                  refine ⟨fun b63 => ?_, fun b63 => ?_⟩
                  · rw [if_pos (beq_t b63)] at h
                    obtain ⟨t64, ht64, h⟩ := of_bind h
                    refine ⟨t64, ⟨halterlaw02_sure.fun_ ht64, trivial⟩, ?_⟩
                    refine ⟨trivial, ?_⟩
                    obtain rfl := Option.some.inj h
                    exact ⟨trivial, trivial, rfl, rfl⟩
                  · rw [if_neg (beq_f b63)] at h
                    refine ⟨trivial, ?_⟩
                    refine ⟨fun b65 => ?_, fun b65 => ?_⟩
                    · rw [if_pos (beq_t b65)] at h
                      obtain ⟨t66, ht66, h⟩ := of_bind h
                      refine ⟨t66, ⟨soft_Add.fun_ ht66, trivial⟩, ?_⟩
                      refine ⟨trivial, ?_⟩
                      refine ⟨fun b67 => ?_, fun b67 => ?_⟩
                      · rw [if_pos (beq_t b67)] at h
                        refine ⟨b67, ?_⟩
                        refine ⟨b67, ?_⟩
                        obtain ⟨t68, ht68, h⟩ := of_bind h
                        refine ⟨t68, ⟨soft_Cmp.fun_ ht68, trivial⟩, ?_⟩
                        refine ⟨b67, ?_⟩
                        refine ⟨trivial, ?_⟩
                        refine ⟨b67, ?_⟩
                        refine ⟨fun b69 => ?_, fun b69 => ?_⟩
                        · rw [if_pos (beq_t b69)] at h
                          obtain ⟨t70, ht70, h⟩ := of_bind h
                          refine ⟨t70, ⟨halterlaw02_sure.fun_ ht70, trivial⟩, ?_⟩
                          refine ⟨b69, ?_⟩
                          refine ⟨trivial, ?_⟩
                          obtain rfl := Option.some.inj h
                          exact ⟨trivial, trivial, rfl, rfl⟩
                        · rw [if_neg (beq_f b69)] at h
                          refine ⟨b69, ?_⟩
                          refine ⟨trivial, ?_⟩
                          obtain rfl := Option.some.inj h
                          exact ⟨trivial, trivial, rfl, rfl⟩
                      · rw [if_neg (beq_f b67)] at h
                        refine ⟨b67, ?_⟩
                        refine ⟨b67, ?_⟩
                        refine ⟨b67, ?_⟩
                        refine ⟨b67, ?_⟩
                        refine ⟨rfl, ?_⟩
                        refine ⟨rfl, ?_⟩
                        refine ⟨trivial, ?_⟩
                        obtain rfl := Option.some.inj h
                        exact ⟨trivial, trivial, rfl, rfl⟩
                    · rw [if_neg (beq_f b65)] at h
                      refine ⟨(by decide), ?_⟩
                      refine ⟨trivial, ?_⟩
                      refine ⟨trivial, ?_⟩
                      refine ⟨fun b71 => ?_, fun b71 => ?_⟩
                      · rw [if_pos (bb_f (not_t b71))] at h
                        obtain ⟨t72, ht72, h⟩ := of_bind h
                        refine ⟨t72, ⟨soft_Div.fun_ ht72, trivial⟩, ?_⟩
                        refine ⟨trivial, ?_⟩
                        refine ⟨fun b73 => ?_, fun b73 => ?_⟩
                        · rw [if_pos (beq_t b73)] at h
                          refine ⟨b73, ?_⟩
                          refine ⟨b73, ?_⟩
                          obtain ⟨t74, ht74, h⟩ := of_bind h
                          refine ⟨t74, ⟨soft_Mul.fun_ ht74, trivial⟩, ?_⟩
                          refine ⟨b73, ?_⟩
                          refine ⟨b73, ?_⟩
                          refine ⟨trivial, ?_⟩
                          refine ⟨b73, ?_⟩
                          refine ⟨fun b75 => ?_, fun b75 => ?_⟩
                          · rw [if_pos (beq_t b75)] at h
                            refine ⟨b75, ?_⟩
                            refine ⟨b75, ?_⟩
                            obtain ⟨t76, ht76, h⟩ := of_bind h
                            refine ⟨t76, ⟨soft_Add.fun_ ht76, trivial⟩, ?_⟩
                            refine ⟨b75, ?_⟩
                            refine ⟨b75, ?_⟩
                            refine ⟨trivial, ?_⟩
                            refine ⟨b75, ?_⟩
                            refine ⟨fun b77 => ?_, fun b77 => ?_⟩
                            · rw [if_pos (beq_t b77)] at h
                              refine ⟨b77, ?_⟩
                              refine ⟨b77, ?_⟩
                              obtain ⟨t78, ht78, h⟩ := of_bind h
                              refine ⟨t78, ⟨soft_Div.fun_ ht78, trivial⟩, ?_⟩
                              refine ⟨b77, ?_⟩
                              refine ⟨(by decide), ?_⟩
                              refine ⟨b77, ?_⟩
                              refine ⟨trivial, ?_⟩
                              refine ⟨b77, ?_⟩
                              refine ⟨fun b79 => ?_, fun b79 => ?_⟩
                              · rw [if_pos (beq_t b79)] at h
                                refine ⟨b79, ?_⟩
                                obtain ⟨t80, ht80, h⟩ := of_bind h
                                refine ⟨t80, ⟨soft_Sqrt.fun_ ht80, trivial⟩, ?_⟩
                                refine ⟨b79, ?_⟩
                                refine ⟨trivial, ?_⟩
                                refine ⟨b79, ?_⟩
                                refine ⟨b79, ?_⟩
                                refine ⟨(by decide), ?_⟩
                                refine ⟨b79, ?_⟩
                                refine ⟨trivial, ?_⟩
                                refine ⟨b79, ?_⟩
                                refine ⟨trivial, ?_⟩
                                refine ⟨b79, ?_⟩
                                refine ⟨fun b81 => ?_, fun b81 => ?_⟩
                                · rw [if_pos (bb_t b81)] at h
                                  obtain ⟨t82, ht82, h⟩ := of_bind h
                                  refine ⟨t82, ⟨halterlaw02_sure.fun_ ht82, trivial⟩, ?_⟩
                                  refine ⟨b81, ?_⟩
                                  refine ⟨trivial, ?_⟩
                                  obtain rfl := Option.some.inj h
                                  exact ⟨trivial, trivial, rfl, rfl⟩
                                · rw [if_neg (bb_f b81)] at h
                                  refine ⟨b81, ?_⟩
                                  refine ⟨trivial, ?_⟩
                                  obtain rfl := Option.some.inj h
                                  exact ⟨trivial, trivial, rfl, rfl⟩
                              · rw [if_neg (beq_f b79)] at h
                                refine ⟨b79, ?_⟩
                                refine ⟨b79, ?_⟩
                                refine ⟨b79, ?_⟩
                                refine ⟨b79, ?_⟩
                                refine ⟨b79, ?_⟩
                                refine ⟨b79, ?_⟩
                                refine ⟨b79, ?_⟩
                                refine ⟨rfl, ?_⟩
                                refine ⟨rfl, ?_⟩
                                refine ⟨trivial, ?_⟩
                                obtain rfl := Option.some.inj h
                                exact ⟨trivial, trivial, rfl, rfl⟩
                            · rw [if_neg (beq_f b77)] at h
                              refine ⟨b77, ?_⟩
                              refine ⟨b77, ?_⟩
                              refine ⟨b77, ?_⟩
                              refine ⟨b77, ?_⟩
                              refine ⟨b77, ?_⟩
                              refine ⟨rfl, ?_⟩
                              refine ⟨rfl, ?_⟩
                              refine ⟨rfl, ?_⟩
                              refine ⟨rfl, ?_⟩
                              refine ⟨rfl, ?_⟩
                              refine ⟨rfl, ?_⟩
                              refine ⟨rfl, ?_⟩
                              refine ⟨rfl, ?_⟩
                              refine ⟨rfl, ?_⟩
                              refine ⟨rfl, ?_⟩
                              refine ⟨trivial, ?_⟩
                              obtain rfl := Option.some.inj h
                              exact ⟨trivial, trivial, rfl, rfl⟩
                          · rw [if_neg (beq_f b75)] at h
                            refine ⟨b75, ?_⟩
                            refine ⟨b75, ?_⟩
                            refine ⟨b75, ?_⟩
                            refine ⟨b75, ?_⟩
                            refine ⟨b75, ?_⟩
                            refine ⟨rfl, ?_⟩
                            refine ⟨rfl, ?_⟩
                            refine ⟨rfl, ?_⟩
                            refine ⟨rfl, ?_⟩
                            refine ⟨rfl, ?_⟩
                            refine ⟨rfl, ?_⟩
                            refine ⟨rfl, ?_⟩
                            refine ⟨rfl, ?_⟩
                            refine ⟨rfl, ?_⟩
                            refine ⟨rfl, ?_⟩
                            refine ⟨rfl, ?_⟩
                            refine ⟨rfl, ?_⟩
                            refine ⟨rfl, ?_⟩
                            refine ⟨rfl, ?_⟩
                            refine ⟨rfl, ?_⟩
                            refine ⟨rfl, ?_⟩
                            refine ⟨trivial, ?_⟩
                            obtain rfl := Option.some.inj h
                            exact ⟨trivial, trivial, rfl, rfl⟩
                        · rw [if_neg (beq_f b73)] at h
                          refine ⟨b73, ?_⟩
                          refine ⟨b73, ?_⟩
                          refine ⟨b73, ?_⟩
                          refine ⟨b73, ?_⟩
                          refine ⟨b73, ?_⟩
                          refine ⟨rfl, ?_⟩
                          refine ⟨rfl, ?_⟩
                          refine ⟨rfl, ?_⟩
                          refine ⟨rfl, ?_⟩
                          refine ⟨rfl, ?_⟩
                          refine ⟨rfl, ?_⟩
                          refine ⟨rfl, ?_⟩
                          refine ⟨rfl, ?_⟩
                          refine ⟨rfl, ?_⟩
                          refine ⟨rfl, ?_⟩
                          refine ⟨rfl, ?_⟩
                          refine ⟨rfl, ?_⟩
                          refine ⟨rfl, ?_⟩
                          refine ⟨rfl, ?_⟩
                          refine ⟨rfl, ?_⟩
                          refine ⟨rfl, ?_⟩
                          refine ⟨rfl, ?_⟩
                          refine ⟨rfl, ?_⟩
                          refine ⟨rfl, ?_⟩
                          refine ⟨rfl, ?_⟩
                          refine ⟨rfl, ?_⟩
                          refine ⟨rfl, ?_⟩
                          refine ⟨trivial, ?_⟩
                          obtain rfl := Option.some.inj h
                          exact ⟨trivial, trivial, rfl, rfl⟩
                      · rw [if_neg (not_not_intro (bb_t (not_f b71)))] at h
                        obtain ⟨t83, ht83, h⟩ := of_bind h
                        refine ⟨t83, ⟨soft_Div.fun_ ht83, trivial⟩, ?_⟩
                        refine ⟨trivial, ?_⟩
                        refine ⟨fun b84 => ?_, fun b84 => ?_⟩
                        · rw [if_pos (beq_t b84)] at h
                          refine ⟨b84, ?_⟩
                          refine ⟨b84, ?_⟩
                          obtain ⟨t85, ht85, h⟩ := of_bind h
                          refine ⟨t85, ⟨soft_Mul.fun_ ht85, trivial⟩, ?_⟩
                          refine ⟨b84, ?_⟩
                          refine ⟨b84, ?_⟩
                          refine ⟨trivial, ?_⟩
                          refine ⟨b84, ?_⟩
                          refine ⟨fun b86 => ?_, fun b86 => ?_⟩
                          · rw [if_pos (beq_t b86)] at h
                            refine ⟨b86, ?_⟩
                            refine ⟨b86, ?_⟩
                            obtain ⟨t87, ht87, h⟩ := of_bind h
                            refine ⟨t87, ⟨soft_Add.fun_ ht87, trivial⟩, ?_⟩
                            refine ⟨b86, ?_⟩
                            refine ⟨b86, ?_⟩
                            refine ⟨trivial, ?_⟩
                            refine ⟨b86, ?_⟩
                            refine ⟨fun b88 => ?_, fun b88 => ?_⟩
                            · rw [if_pos (beq_t b88)] at h
                              refine ⟨b88, ?_⟩
                              refine ⟨b88, ?_⟩
                              obtain ⟨t89, ht89, h⟩ := of_bind h
                              refine ⟨t89, ⟨soft_Div.fun_ ht89, trivial⟩, ?_⟩
                              refine ⟨b88, ?_⟩
                              refine ⟨(by decide), ?_⟩
                              refine ⟨b88, ?_⟩
                              refine ⟨trivial, ?_⟩
                              refine ⟨b88, ?_⟩
                              refine ⟨fun b90 => ?_, fun b90 => ?_⟩
                              · rw [if_pos (beq_t b90)] at h
                                refine ⟨b90, ?_⟩
                                obtain ⟨t91, ht91, h⟩ := of_bind h
                                refine ⟨t91, ⟨soft_Sqrt.fun_ ht91, trivial⟩, ?_⟩
                                refine ⟨b90, ?_⟩
                                refine ⟨trivial, ?_⟩
                                refine ⟨b90, ?_⟩
                                refine ⟨b90, ?_⟩
                                refine ⟨(by decide), ?_⟩
                                refine ⟨b90, ?_⟩
                                refine ⟨trivial, ?_⟩
                                refine ⟨b90, ?_⟩
                                refine ⟨trivial, ?_⟩
                                refine ⟨b90, ?_⟩
                                refine ⟨fun b92 => ?_, fun b92 => ?_⟩
                                · rw [if_pos (bb_t b92)] at h
                                  obtain ⟨t93, ht93, h⟩ := of_bind h
                                  refine ⟨t93, ⟨halterlaw02_sure.fun_ ht93, trivial⟩, ?_⟩
                                  refine ⟨b92, ?_⟩
                                  refine ⟨trivial, ?_⟩
                                  obtain rfl := Option.some.inj h
                                  exact ⟨trivial, trivial, rfl, rfl⟩
                                · rw [if_neg (bb_f b92)] at h
                                  refine ⟨b92, ?_⟩
                                  refine ⟨trivial, ?_⟩
                                  obtain rfl := Option.some.inj h
                                  exact ⟨trivial, trivial, rfl, rfl⟩
                              · rw [if_neg (beq_f b90)] at h
                                refine ⟨b90, ?_⟩
                                refine ⟨b90, ?_⟩
                                refine ⟨b90, ?_⟩
                                refine ⟨b90, ?_⟩
                                refine ⟨b90, ?_⟩
                                refine ⟨b90, ?_⟩
                                refine ⟨b90, ?_⟩
                                refine ⟨rfl, ?_⟩
                                refine ⟨rfl, ?_⟩
                                refine ⟨trivial, ?_⟩
                                obtain rfl := Option.some.inj h
                                exact ⟨trivial, trivial, rfl, rfl⟩
                            · rw [if_neg (beq_f b88)] at h
                              refine ⟨b88, ?_⟩
                              refine ⟨b88, ?_⟩
                              refine ⟨b88, ?_⟩
                              refine ⟨b88, ?_⟩
                              refine ⟨b88, ?_⟩
                              refine ⟨rfl, ?_⟩
                              refine ⟨rfl, ?_⟩
                              refine ⟨rfl, ?_⟩
                              refine ⟨rfl, ?_⟩
                              refine ⟨rfl, ?_⟩
                              refine ⟨rfl, ?_⟩
                              refine ⟨rfl, ?_⟩
                              refine ⟨rfl, ?_⟩
                              refine ⟨rfl, ?_⟩
                              refine ⟨rfl, ?_⟩
                              refine ⟨trivial, ?_⟩
                              obtain rfl := Option.some.inj h
                              exact ⟨trivial, trivial, rfl, rfl⟩
                          · rw [if_neg (beq_f b86)] at h
                            refine ⟨b86, ?_⟩
                            refine ⟨b86, ?_⟩
                            refine ⟨b86, ?_⟩
                            refine ⟨b86, ?_⟩
                            refine ⟨b86, ?_⟩
                            refine ⟨rfl, ?_⟩
                            refine ⟨rfl, ?_⟩
                            refine ⟨rfl, ?_⟩
                            refine ⟨rfl, ?_⟩
                            refine ⟨rfl, ?_⟩
                            refine ⟨rfl, ?_⟩
                            refine ⟨rfl, ?_⟩
                            refine ⟨rfl, ?_⟩
                            refine ⟨rfl, ?_⟩
                            refine ⟨rfl, ?_⟩
                            refine ⟨rfl, ?_⟩
                            refine ⟨rfl, ?_⟩
                            refine ⟨rfl, ?_⟩
                            refine ⟨rfl, ?_⟩
                            refine ⟨rfl, ?_⟩
                            refine ⟨rfl, ?_⟩
                            refine ⟨trivial, ?_⟩
                            obtain rfl := Option.some.inj h
                            exact ⟨trivial, trivial, rfl, rfl⟩
                        · rw [if_neg (beq_f b84)] at h
                          refine ⟨b84, ?_⟩
                          refine ⟨b84, ?_⟩
                          refine ⟨b84, ?_⟩
                          refine ⟨b84, ?_⟩
                          refine ⟨b84, ?_⟩
                          refine ⟨rfl, ?_⟩
                          refine ⟨rfl, ?_⟩
                          refine ⟨rfl, ?_⟩
                          refine ⟨rfl, ?_⟩
                          refine ⟨rfl, ?_⟩
                          refine ⟨rfl, ?_⟩
                          refine ⟨rfl, ?_⟩
                          refine ⟨rfl, ?_⟩
                          refine ⟨rfl, ?_⟩
                          refine ⟨rfl, ?_⟩
                          refine ⟨rfl, ?_⟩
                          refine ⟨rfl, ?_⟩
                          refine ⟨rfl, ?_⟩
                          refine ⟨rfl, ?_⟩
                          refine ⟨rfl, ?_⟩
                          refine ⟨rfl, ?_⟩
                          refine ⟨rfl, ?_⟩
                          refine ⟨rfl, ?_⟩
                          refine ⟨rfl, ?_⟩
                          refine ⟨rfl, ?_⟩
                          refine ⟨rfl, ?_⟩
                          refine ⟨rfl, ?_⟩
                          refine ⟨trivial, ?_⟩
                          obtain rfl := Option.some.inj h
                          exact ⟨trivial, trivial, rfl, rfl⟩
            · rw [if_pos (bne_t b57)] at h
              refine ⟨b57, ?_⟩
              refine ⟨b57, ?_⟩
              refine ⟨b57, ?_⟩
              refine ⟨b57, ?_⟩
              refine ⟨b57, ?_⟩
              refine ⟨rfl, ?_⟩
              refine ⟨trivial, ?_⟩
              refine ⟨trivial, ?_⟩
              obtain rfl := Option.some.inj h
              exact ⟨trivial, trivial, rfl, rfl⟩
          · rw [if_pos (bne_t b55)] at h
            refine ⟨b55, ?_⟩
            refine ⟨b55, ?_⟩
            refine ⟨b55, ?_⟩
            refine ⟨b55, ?_⟩
            refine ⟨rfl, ?_⟩
            refine ⟨rfl, ?_⟩
            refine ⟨rfl, ?_⟩
            refine ⟨rfl, ?_⟩
            refine ⟨rfl, ?_⟩
            refine ⟨rfl, ?_⟩
            refine ⟨rfl, ?_⟩
            refine ⟨trivial, ?_⟩
            refine ⟨trivial, ?_⟩
            obtain rfl := Option.some.inj h
            exact ⟨trivial, trivial, rfl, rfl⟩
        · rw [if_pos (bne_t b53)] at h
          refine ⟨b53, ?_⟩
          refine ⟨b53, ?_⟩
          refine ⟨b53, ?_⟩
          refine ⟨b53, ?_⟩
          refine ⟨rfl, ?_⟩
          refine ⟨rfl, ?_⟩
          refine ⟨rfl, ?_⟩
          refine ⟨rfl, ?_⟩
          refine ⟨rfl, ?_⟩
          refine ⟨rfl, ?_⟩
          refine ⟨rfl, ?_⟩
          refine ⟨rfl, ?_⟩
          refine ⟨rfl, ?_⟩
          refine ⟨rfl, ?_⟩
          refine ⟨rfl, ?_⟩
          refine ⟨rfl, ?_⟩
          refine ⟨trivial, ?_⟩
          refine ⟨trivial, ?_⟩
          obtain rfl := Option.some.inj h
          exact ⟨trivial, trivial, rfl, rfl⟩
      · rw [if_pos (bne_t b51)] at h
        refine ⟨b51, ?_⟩
        refine ⟨b51, ?_⟩
        refine ⟨b51, ?_⟩
        refine ⟨b51, ?_⟩
        refine ⟨rfl, ?_⟩
        refine ⟨rfl, ?_⟩
        refine ⟨rfl, ?_⟩
        refine ⟨rfl, ?_⟩
        refine ⟨rfl, ?_⟩
        refine ⟨rfl, ?_⟩
        refine ⟨rfl, ?_⟩
        refine ⟨rfl, ?_⟩
        refine ⟨rfl, ?_⟩
        refine ⟨rfl, ?_⟩
        refine ⟨rfl, ?_⟩
        refine ⟨rfl, ?_⟩
        refine ⟨rfl, ?_⟩
        refine ⟨rfl, ?_⟩
        refine ⟨rfl, ?_⟩
        refine ⟨rfl, ?_⟩
        refine ⟨rfl, ?_⟩
        refine ⟨trivial, ?_⟩
        refine ⟨trivial, ?_⟩
        obtain rfl := Option.some.inj h
        exact ⟨trivial, trivial, rfl, rfl⟩
    · rw [if_pos (bne_t b49)] at h
      refine ⟨b49, ?_⟩
      refine ⟨b49, ?_⟩
      refine ⟨b49, ?_⟩
      refine ⟨b49, ?_⟩
      refine ⟨rfl, ?_⟩
      refine ⟨rfl, ?_⟩
      refine ⟨rfl, ?_⟩
      refine ⟨rfl, ?_⟩
      refine ⟨rfl, ?_⟩
      refine ⟨rfl, ?_⟩
      refine ⟨rfl, ?_⟩
      refine ⟨rfl, ?_⟩
      refine ⟨rfl, ?_⟩
      refine ⟨rfl, ?_⟩
      refine ⟨rfl, ?_⟩
      refine ⟨rfl, ?_⟩
      refine ⟨rfl, ?_⟩
      refine ⟨rfl, ?_⟩
      refine ⟨rfl, ?_⟩
      refine ⟨rfl, ?_⟩
      refine ⟨rfl, ?_⟩
      refine ⟨rfl, ?_⟩
      refine ⟨rfl, ?_⟩
      refine ⟨rfl, ?_⟩
      refine ⟨rfl, ?_⟩
      refine ⟨rfl, ?_⟩
      refine ⟨trivial, ?_⟩
      refine ⟨trivial, ?_⟩
      obtain rfl := Option.some.inj h
      exact ⟨trivial, trivial, rfl, rfl⟩
end Go.Proofs.YtkaehhfdjenmcaaGSoftEdges
