/- Printed by gen.py: the next part. -/
import Derived.Test.YtllannmegnklmaaGCpuFailsp0
set_option linter.unusedVariables false
set_option maxRecDepth 100000
set_option maxHeartbeats 4000000
namespace Go.Proofs.YtllannmegnklmaaGCpuFails
open Go Go.Proofs.YtllannmegnklmaaE
theorem cm_leap.fun_ {a0 : (List Int)} {a1 : Int} {a2 : Int} {a3 : (List Int)} {a4 : Int} {a5 : Int} {a6 : Int} {a7 : Int} {a8 : Int} {a9 : Int} {a10 : Int} {a11 : Int} {a12 : (List Int)} {r : ((List Int) × Int) ⊕ (Int × Int)} (h : cm_leap.f a0 a1 a2 a3 a4 a5 a6 a7 a8 a9 a10 a11 a12 = some r) : FunG cfg 27 [.one (.ptr 0 ⟨0, 0, 0, 0⟩)] (kB0 a0 a1 a2 a3 a4 a5 a6 a7 a8 a9 a12 a10 a11) (cm_leap.P r) (cm_leap.R r) (cm_leap.B a0 a1 a2 a3 a4 a5 a6 a7 a8 a9 a10 a11 a12 r) := by
  unfold cm_leap.f at h
  refine funG_of_run cfg_ok (f := 27) (fn := Try.f27) Try.func27 rfl (by kernel_rfl) (rs := []) rfl (nt := 64) rfl (l := fin) (ho := cm_leap.P_ r) (k := (.br (.dr (nd [0, 1, 2, 3, 4, 6, 7, 8, 5, 9, 10] []) (.callR true [] [0, 1, 2] (Int) (fun t2 => (cm_jump.R t2)) (fun t2 => (cm_jump.B (List.set a0 14 a1) a1 a2 a3 a4 a5 a6 a7 a8 a9 a10 a11 a12 t2)) (fun t2 => (.adj [] .nil)))) (.br (.dr (nd [0, 1, 2, 3, 4, 5, 7, 8, 9, 6, 10, 11, 12, 13, 14, 15] []) (.adj [] .nil)) (.ex (Bool × (Option Int)) (fun t6 => (.dr (nd [0, 1, 2, 3, 5, 6, 7, 8, 4, 9] ([(10, ⟨none, .callP true [] (alu_Taken.R t6), false⟩)] ++ (nr 11 5 []))) (.br (.callX true [] [] (Int × Int) (fun t8 => (.iface 64 (.agg #[.int .i64 t8.1, .int .u32 t8.2]))) (fun t8 => (cpu_fail.B (4 : Int) a8 t8)) (fun t8 => (.adj [] .nil))) (.br (.callR true [] [0, 1, 2] (Int) (fun t10 => (cm_jump.R t10)) (fun t10 => (cm_jump.B a0 a1 a2 a3 a4 a5 a6 a7 a8 a9 a10 a11 a12 t10)) (fun t10 => (.adj [] .nil))) (aE 2 .nil))))))))) (to_goal (q := (U) ∧ (U) ∧ (((a4 == (27 : Int)) = true → (U) ∧ (0 ≤ (14 : Int) ∧ (14 : Int) < ((16 : Nat) : Int)) ∧ (14 < 16) ∧ (∃ t2 : Int, (Fun cfg 36 [.one (.ptr 0 ⟨0, 0, 0, 0⟩)] [.ex false [.c (.ip 29 1), .row 16 (.int .u32) (List.set a0 14 a1), .c (.sc (.int .u32 a1)), .c (.sc (.int .u32 a2)), .row 4 (.int .u64) a3, .c (.sc (.int .i64 a4)), .c (.sc (.int .i64 a5)), .c (.sc (.int .i64 a6)), .c (.sc (.int .i64 a7)), .c (.sc (.int .u32 a8)), .c (.sc (.int .i64 a9))] 62, .ex false [.c (.os 2 0 0 1 (List.length a12) none), .c (.sc (.int .i64 a10)), .c (.sc (.int .i64 a11))] 33, .fix false (.int .u8) a12 5] (cm_jump.R t2) (cm_jump.B (List.set a0 14 a1) a1 a2 a3 a4 a5 a6 a7 a8 a9 a10 a11 a12 t2) ∧ U) ∧ (cm_leap.P r = false ∧ (U) ∧ (U) ∧ (.tup [] : Tm) = cm_leap.R r ∧ ([.ex false [.c (.ip 29 1), .row 16 (.int .u32) (List.set a0 14 a1), .c (.sc (.int .u32 t2)), .c (.sc (.int .u32 a2)), .row 4 (.int .u64) a3, .c (.sc (.int .i64 a4)), .c (.sc (.int .i64 a5)), .c (.sc (.int .i64 a6)), .c (.sc (.int .i64 a7)), .c (.sc (.int .u32 a8)), .c (.sc (.int .i64 a9))] 62, .ex false [.c (.os 2 0 0 1 (List.length a12) none), .c (.sc (.int .i64 a10)), .c (.sc (.int .i64 a11))] 33, .fix false (.int .u8) a12 5] : List Box) = cm_leap.B a0 a1 a2 a3 a4 a5 a6 a7 a8 a9 a10 a11 a12 r))) ∧ ((a4 == (27 : Int)) = false → (U) ∧ (((a4 == (28 : Int)) = true → (U) ∧ (0 ≤ a5 ∧ a5 < ((16 : Nat) : Int)) ∧ ((Int.toNat a5) < 16) ∧ (U) ∧ (cm_leap.P r = false ∧ (U) ∧ (U) ∧ (.tup [] : Tm) = cm_leap.R r ∧ ([.ex false [.c (.ip 29 1), .row 16 (.int .u32) a0, .c (.sc (.int .u32 (List.getD a0 (Int.toNat a5) (0 : Int)))), .c (.sc (.int .u32 a2)), .row 4 (.int .u64) a3, .c (.sc (.int .i64 a4)), .c (.sc (.int .i64 a5)), .c (.sc (.int .i64 a6)), .c (.sc (.int .i64 a7)), .c (.sc (.int .u32 a8)), .c (.sc (.int .i64 a9))] 62, .ex false [.c (.os 2 0 0 1 (List.length a12) none), .c (.sc (.int .i64 a10)), .c (.sc (.int .i64 a11))] 33, .fix false (.int .u8) a12 5] : List Box) = cm_leap.B a0 a1 a2 a3 a4 a5 a6 a7 a8 a9 a10 a11 a12 r)) ∧ ((a4 == (28 : Int)) = false → (∃ t6 : Bool × (Option Int), (U) ∧ (U) ∧ (Fun cfg 37 [.one (.sc (.int .i64 a4)), .one (.sc (.int .u32 a2))] [] (alu_Taken.R t6) [] ∧ U) ∧ (U) ∧ (((!(Option.isNone t6.2)) = true → (U) ∧ (∃ t8 : Int × Int, (FunX cfg 21 [.one (.sc (.int .i64 (4 : Int))), .one (.sc (.int .u32 a8))] [] (.iface 64 (.agg #[.int .i64 t8.1, .int .u32 t8.2])) (cpu_fail.B (4 : Int) a8 t8) ∧ U) ∧ (cm_leap.P r = true ∧ (U) ∧ (.v (.one (.sc (.iface 64 (.agg #[.int .i64 t8.1, .int .u32 t8.2])))) : Tm) = cm_leap.R r ∧ ([(cm_leap.c0 a0 a1 a2 a3 a4 a5 a6 a7 a8 a9), .ex false [.c (.os 2 0 0 1 (List.length a12) none), .c (.sc (.int .i64 a10)), .c (.sc (.int .i64 a11))] 33, .fix false (.int .u8) a12 5] : List Box) = cm_leap.B a0 a1 a2 a3 a4 a5 a6 a7 a8 a9 a10 a11 a12 r))) ∧ ((!(Option.isNone t6.2)) = false → ((t6.1 = true → (∃ t10 : Int, (Fun cfg 36 [.one (.ptr 0 ⟨0, 0, 0, 0⟩)] [(cm_leap.c0 a0 a1 a2 a3 a4 a5 a6 a7 a8 a9), .ex false [.c (.os 2 0 0 1 (List.length a12) none), .c (.sc (.int .i64 a10)), .c (.sc (.int .i64 a11))] 33, .fix false (.int .u8) a12 5] (cm_jump.R t10) (cm_jump.B a0 a1 a2 a3 a4 a5 a6 a7 a8 a9 a10 a11 a12 t10) ∧ U) ∧ (cm_leap.P r = false ∧ (U) ∧ (U) ∧ (.tup [] : Tm) = cm_leap.R r ∧ ([.ex false [.c (.ip 29 1), .row 16 (.int .u32) a0, .c (.sc (.int .u32 t10)), .c (.sc (.int .u32 a2)), .row 4 (.int .u64) a3, .c (.sc (.int .i64 a4)), .c (.sc (.int .i64 a5)), .c (.sc (.int .i64 a6)), .c (.sc (.int .i64 a7)), .c (.sc (.int .u32 a8)), .c (.sc (.int .i64 a9))] 62, .ex false [.c (.os 2 0 0 1 (List.length a12) none), .c (.sc (.int .i64 a10)), .c (.sc (.int .i64 a11))] 33, .fix false (.int .u8) a12 5] : List Box) = cm_leap.B a0 a1 a2 a3 a4 a5 a6 a7 a8 a9 a10 a11 a12 r))) ∧ (t6.1 = false → (U ∧ (cm_leap.P r = false ∧ (U) ∧ (U) ∧ (.tup [] : Tm) = cm_leap.R r ∧ ([(cm_leap.c0 a0 a1 a2 a3 a4 a5 a6 a7 a8 a9), .ex false [.c (.os 2 0 0 1 (List.length a12) none), .c (.sc (.int .i64 a10)), .c (.sc (.int .i64 a11))] 33, .fix false (.int .u8) a12 5] : List Box) = cm_leap.B a0 a1 a2 a3 a4 a5 a6 a7 a8 a9 a10 a11 a12 r)))))))))))) (by kernel_rfl) ?_)
  refine ⟨T, T, ?_⟩
  refine ⟨fun b1 => ?_, fun b1 => ?_⟩
  · rw [if_pos (beq_t b1)] at h
    refine ⟨T, (by decide), (by decide), ?_⟩
    obtain ⟨t2, ht2, h⟩ := of_bind h
    refine ⟨t2, ⟨cm_jump.fun_ ht2, T⟩, ?_⟩
    obtain rfl := oi h
    exact ⟨rfl, T, T, rfl, rfl⟩
  · rw [if_neg (beq_f b1)] at h
    refine tI ?_
    refine ⟨fun b3 => ?_, fun b3 => ?_⟩
    · rw [if_pos (beq_t b3)] at h
      obtain ⟨g4, h⟩ := of_guard h
      obtain ⟨g5, h⟩ := of_guard h
      refine ⟨T, g4, g5, T, ?_⟩
      obtain rfl := oi h
      exact ⟨rfl, T, T, rfl, rfl⟩
    · rw [if_neg (beq_f b3)] at h
      obtain ⟨t6, ht6, h⟩ := of_bind h
      refine ⟨t6, ?_⟩
      refine ⟨T, T, ⟨alu_Taken.fun_ ht6, T⟩, ?_⟩
      refine tI ?_
      refine ⟨fun b7 => ?_, fun b7 => ?_⟩
      · rw [if_pos (none_f (not_t b7))] at h
        refine tI ?_
        obtain ⟨t8, ht8, h⟩ := of_bind h
        refine ⟨t8, ⟨cpu_fail.fun_ ht8, T⟩, ?_⟩
        obtain rfl := oi h
        exact ⟨rfl, T, rfl, rfl⟩
      · rw [if_neg (not_not_intro (none_t (not_f b7)))] at h
        refine ⟨fun b9 => ?_, fun b9 => ?_⟩
        · rw [if_pos b9] at h
          obtain ⟨t10, ht10, h⟩ := of_bind h
          refine ⟨t10, ⟨cm_jump.fun_ ht10, T⟩, ?_⟩
          obtain rfl := oi h
          exact ⟨rfl, T, T, rfl, rfl⟩
        · rw [if_neg (ff b9)] at h
          refine tI ?_
          obtain rfl := oi h
          exact ⟨rfl, T, T, rfl, rfl⟩
def alu_Cmp.f (a0 : Int) (a1 : Int) (a2 : Int) : Option Int :=
  (soft_Cmp.f a0 a1).bind fun t1 =>
  if t1 = (-1 : Int) then
    some (bits .or .u32 (bits .and .u32 a2 (16 : Int)) (2 : Int))
  else
    if t1 = (0 : Int) then
      some (bits .or .u32 (bits .and .u32 a2 (16 : Int)) (1 : Int))
    else
      if t1 = (1 : Int) then
        some (bits .and .u32 a2 (16 : Int))
      else
        some (bits .or .u32 (bits .and .u32 a2 (16 : Int)) (4 : Int))
def alu_Cmp.R (r : Int) : Tm := vi .u32 r
theorem alu_Cmp.fun_ {a0 : Int} {a1 : Int} {a2 : Int} {r : Int} (h : alu_Cmp.f a0 a1 a2 = some r) : Fun cfg 40 [.one (.sc (.int .u64 a0)), .one (.sc (.int .u64 a1)), .one (.sc (.int .u32 a2))] [] (alu_Cmp.R r) [] := by
  unfold alu_Cmp.f at h
  refine fun_of_run cfg_ok (f := 40) (fn := Try.f40) Try.func40 rfl (by kernel_rfl) (rs := [.tmp 6]) rfl (nt := 26) rfl (l := fin) (k := (.call true [] (Int) soft_Cmp.R (fun t1 => (.br (aE 3 .nil) (.br (aE 3 .nil) (.br (aE 3 .nil) (aE 4 .nil))))))) (to_goal (q := (U) ∧ (∃ t1 : Int, (Fun cfg 48 [.one (.sc (.int .u64 a0)), .one (.sc (.int .u64 a1))] [] (soft_Cmp.R t1) [] ∧ U) ∧ (U) ∧ (((t1 == (-1 : Int)) = true → (U ∧ (U) ∧ (U ∧ ((U) ∧ (U) ∧ (vi .u32 (bits .or .u32 (bits .and .u32 a2 (16 : Int)) (2 : Int)) : Tm) = alu_Cmp.R r ∧ ([] : List Box) = [])))) ∧ ((t1 == (-1 : Int)) = false → (U) ∧ (((t1 == (0 : Int)) = true → (U ∧ (U) ∧ (U ∧ ((U) ∧ (U) ∧ (vi .u32 (bits .or .u32 (bits .and .u32 a2 (16 : Int)) (1 : Int)) : Tm) = alu_Cmp.R r ∧ ([] : List Box) = [])))) ∧ ((t1 == (0 : Int)) = false → (U) ∧ (((t1 == (1 : Int)) = true → (U ∧ (U ∧ ((U) ∧ (U) ∧ (vi .u32 (bits .and .u32 a2 (16 : Int)) : Tm) = alu_Cmp.R r ∧ ([] : List Box) = [])))) ∧ ((t1 == (1 : Int)) = false → (U ∧ (U ∧ (U) ∧ (U ∧ ((U) ∧ (U) ∧ (vi .u32 (bits .or .u32 (bits .and .u32 a2 (16 : Int)) (4 : Int)) : Tm) = alu_Cmp.R r ∧ ([] : List Box) = [])))))))))))) (by kernel_rfl) ?_)
  refine tI ?_
  obtain ⟨t1, ht1, h⟩ := of_bind h
  refine ⟨t1, ⟨soft_Cmp.fun_ ht1, T⟩, ?_⟩
  refine tI ?_
  refine ⟨fun b2 => ?_, fun b2 => ?_⟩
  · rw [if_pos (beq_t b2)] at h
    refine ⟨T, T, T, ?_⟩
    obtain rfl := oi h
    exact ⟨T, T, rfl, rfl⟩
  · rw [if_neg (beq_f b2)] at h
    refine tI ?_
    refine ⟨fun b3 => ?_, fun b3 => ?_⟩
    · rw [if_pos (beq_t b3)] at h
      refine ⟨T, T, T, ?_⟩
      obtain rfl := oi h
      exact ⟨T, T, rfl, rfl⟩
    · rw [if_neg (beq_f b3)] at h
      refine tI ?_
      refine ⟨fun b4 => ?_, fun b4 => ?_⟩
      · rw [if_pos (beq_t b4)] at h
        refine ⟨T, T, ?_⟩
        obtain rfl := oi h
        exact ⟨T, T, rfl, rfl⟩
      · rw [if_neg (beq_f b4)] at h
        refine ⟨T, T, T, T, ?_⟩
        obtain rfl := oi h
        exact ⟨T, T, rfl, rfl⟩
def alu_Float.f (a0 : Int) (a1 : Int) (a2 : Int) : Option (Int × (Option Int)) :=
  if a0 = (33 : Int) then
    (soft_Add.f a1 a2).bind fun t2 =>
    some (t2, none)
  else
    if a0 = (34 : Int) then
      (soft_Sub.f a1 a2).bind fun t4 =>
      some (t4, none)
    else
      if a0 = (35 : Int) then
        (soft_Mul.f a1 a2).bind fun t6 =>
        some (t6, none)
      else
        if a0 = (36 : Int) then
          (soft_Div.f a1 a2).bind fun t8 =>
          some (t8, none)
        else
          if a0 = (37 : Int) then
            (soft_Sqrt.f a2).bind fun t10 =>
            some (t10, none)
          else
            some ((0 : Int), (some (22 : Int)))
def alu_Float.R (r : Int × (Option Int)) : Tm := .tup [.one (.sc (.int .u64 r.1)), .one (.err r.2)]
theorem alu_Float.fun_ {a0 : Int} {a1 : Int} {a2 : Int} {r : Int × (Option Int)} (h : alu_Float.f a0 a1 a2 = some r) : Fun cfg 41 [.one (.sc (.int .i64 a0)), .one (.sc (.int .u64 a1)), .one (.sc (.int .u64 a2))] [] (alu_Float.R r) [] := by
  unfold alu_Float.f at h
  refine fun_of_run cfg_ok (f := 41) (fn := Try.f41) Try.func41 rfl (by kernel_rfl) (rs := [.tmp 6, .tmp 7]) rfl (nt := 34) rfl (l := fin) (k := (.br (.call true [] (Int) soft_Add.R (fun t2 => (aE 2 .nil))) (.br (.call true [] (Int) soft_Sub.R (fun t4 => (aE 2 .nil))) (.br (.call true [] (Int) soft_Mul.R (fun t6 => (aE 2 .nil))) (.br (.call true [] (Int) soft_Div.R (fun t8 => (aE 2 .nil))) (.br (.call true [] (Int) soft_Sqrt.R (fun t10 => (aE 2 .nil))) (aE 4 .nil))))))) (to_goal (q := (U) ∧ (((a0 == (33 : Int)) = true → (∃ t2 : Int, (Fun cfg 49 [.one (.sc (.int .u64 a1)), .one (.sc (.int .u64 a2))] [] (soft_Add.R t2) [] ∧ U) ∧ (U ∧ ((U) ∧ (U) ∧ (.tup [.one (.sc (.int .u64 t2)), .one (.err none)] : Tm) = alu_Float.R r ∧ ([] : List Box) = [])))) ∧ ((a0 == (33 : Int)) = false → (U) ∧ (((a0 == (34 : Int)) = true → (∃ t4 : Int, (Fun cfg 50 [.one (.sc (.int .u64 a1)), .one (.sc (.int .u64 a2))] [] (soft_Sub.R t4) [] ∧ U) ∧ (U ∧ ((U) ∧ (U) ∧ (.tup [.one (.sc (.int .u64 t4)), .one (.err none)] : Tm) = alu_Float.R r ∧ ([] : List Box) = [])))) ∧ ((a0 == (34 : Int)) = false → (U) ∧ (((a0 == (35 : Int)) = true → (∃ t6 : Int, (Fun cfg 51 [.one (.sc (.int .u64 a1)), .one (.sc (.int .u64 a2))] [] (soft_Mul.R t6) [] ∧ U) ∧ (U ∧ ((U) ∧ (U) ∧ (.tup [.one (.sc (.int .u64 t6)), .one (.err none)] : Tm) = alu_Float.R r ∧ ([] : List Box) = [])))) ∧ ((a0 == (35 : Int)) = false → (U) ∧ (((a0 == (36 : Int)) = true → (∃ t8 : Int, (Fun cfg 52 [.one (.sc (.int .u64 a1)), .one (.sc (.int .u64 a2))] [] (soft_Div.R t8) [] ∧ U) ∧ (U ∧ ((U) ∧ (U) ∧ (.tup [.one (.sc (.int .u64 t8)), .one (.err none)] : Tm) = alu_Float.R r ∧ ([] : List Box) = [])))) ∧ ((a0 == (36 : Int)) = false → (U) ∧ (((a0 == (37 : Int)) = true → (∃ t10 : Int, (Fun cfg 53 [.one (.sc (.int .u64 a2))] [] (soft_Sqrt.R t10) [] ∧ U) ∧ (U ∧ ((U) ∧ (U) ∧ (.tup [.one (.sc (.int .u64 t10)), .one (.err none)] : Tm) = alu_Float.R r ∧ ([] : List Box) = [])))) ∧ ((a0 == (37 : Int)) = false → (U ∧ (U ∧ (U ∧ ((U) ∧ (U) ∧ (.tup [.one (.sc (.int .u64 (0 : Int))), .one (.err (some (22 : Int)))] : Tm) = alu_Float.R r ∧ ([] : List Box) = []))))))))))))))) (by kernel_rfl) ?_)
  refine tI ?_
  refine ⟨fun b1 => ?_, fun b1 => ?_⟩
  · rw [if_pos (beq_t b1)] at h
    obtain ⟨t2, ht2, h⟩ := of_bind h
    refine ⟨t2, ⟨soft_Add.fun_ ht2, T⟩, ?_⟩
    refine tI ?_
    obtain rfl := oi h
    exact ⟨T, T, rfl, rfl⟩
  · rw [if_neg (beq_f b1)] at h
    refine tI ?_
    refine ⟨fun b3 => ?_, fun b3 => ?_⟩
    · rw [if_pos (beq_t b3)] at h
      obtain ⟨t4, ht4, h⟩ := of_bind h
      refine ⟨t4, ⟨soft_Sub.fun_ ht4, T⟩, ?_⟩
      refine tI ?_
      obtain rfl := oi h
      exact ⟨T, T, rfl, rfl⟩
    · rw [if_neg (beq_f b3)] at h
      refine tI ?_
      refine ⟨fun b5 => ?_, fun b5 => ?_⟩
      · rw [if_pos (beq_t b5)] at h
        obtain ⟨t6, ht6, h⟩ := of_bind h
        refine ⟨t6, ⟨soft_Mul.fun_ ht6, T⟩, ?_⟩
        refine tI ?_
        obtain rfl := oi h
        exact ⟨T, T, rfl, rfl⟩
      · rw [if_neg (beq_f b5)] at h
        refine tI ?_
        refine ⟨fun b7 => ?_, fun b7 => ?_⟩
        · rw [if_pos (beq_t b7)] at h
          obtain ⟨t8, ht8, h⟩ := of_bind h
          refine ⟨t8, ⟨soft_Div.fun_ ht8, T⟩, ?_⟩
          refine tI ?_
          obtain rfl := oi h
          exact ⟨T, T, rfl, rfl⟩
        · rw [if_neg (beq_f b7)] at h
          refine tI ?_
          refine ⟨fun b9 => ?_, fun b9 => ?_⟩
          · rw [if_pos (beq_t b9)] at h
            obtain ⟨t10, ht10, h⟩ := of_bind h
            refine ⟨t10, ⟨soft_Sqrt.fun_ ht10, T⟩, ?_⟩
            refine tI ?_
            obtain rfl := oi h
            exact ⟨T, T, rfl, rfl⟩
          · rw [if_neg (beq_f b9)] at h
            refine ⟨T, T, T, ?_⟩
            obtain rfl := oi h
            exact ⟨T, T, rfl, rfl⟩
def cm_floats.c0 (a0 : (List Int)) (a1 : Int) (a2 : Int) (a3 : (List Int)) (t15 : Int) (t17 : Int) (a4 : Int) (a5 : Int) (a6 : Int) (a7 : Int) (a8 : Int) (a9 : Int) : Box := .ex false [.c (.ip 29 1), .row 16 (.int .u32) a0, .c (.sc (.int .u32 a1)), .c (.sc (.int .u32 a2)), .row 4 (.int .u64) (List.set a3 (Int.toNat t15) t17), .c (.sc (.int .i64 a4)), .c (.sc (.int .i64 a5)), .c (.sc (.int .i64 a6)), .c (.sc (.int .i64 a7)), .c (.sc (.int .u32 a8)), .c (.sc (.int .i64 a9))] 62
def cm_floats.c1 (a0 : (List Int)) (a1 : Int) (t31 : Int) (a3 : (List Int)) (a4 : Int) (a5 : Int) (a6 : Int) (a7 : Int) (a8 : Int) (a9 : Int) : Box := .ex false [.c (.ip 29 1), .row 16 (.int .u32) a0, .c (.sc (.int .u32 a1)), .c (.sc (.int .u32 t31)), .row 4 (.int .u64) a3, .c (.sc (.int .i64 a4)), .c (.sc (.int .i64 a5)), .c (.sc (.int .i64 a6)), .c (.sc (.int .i64 a7)), .c (.sc (.int .u32 a8)), .c (.sc (.int .i64 a9))] 62
def cm_floats.c2 (a0 : (List Int)) (a1 : Int) (a2 : Int) (a3 : (List Int)) (a4 : Int) (a5 : Int) (a6 : Int) (a7 : Int) (a8 : Int) (a9 : Int) : Box := .ex false [.c (.ip 29 1), .row 16 (.int .u32) a0, .c (.sc (.int .u32 a1)), .c (.sc (.int .u32 a2)), .row 4 (.int .u64) a3, .c (.sc (.int .i64 a4)), .c (.sc (.int .i64 a5)), .c (.sc (.int .i64 a6)), .c (.sc (.int .i64 a7)), .c (.sc (.int .u32 a8)), .c (.sc (.int .i64 a9))] 62
def cm_floats.f (a0 : (List Int)) (a1 : Int) (a2 : Int) (a3 : (List Int)) (a4 : Int) (a5 : Int) (a6 : Int) (a7 : Int) (a8 : Int) (a9 : Int) (a10 : Int) (a11 : Int) (a12 : (List Int)) : Option ((Int × Int) ⊕ ((List Int) × Int × (List Int))) :=
  if a4 = (39 : Int) then
    (cm_float.f a6 a0 a1 a2 a3 a4 a5 a6 a7 a8 a9 a10 a11 a12).bind fun t2 =>
    match t2 with
    | .inl t3 =>
      some (.inl (t3.1, t3.2))
    | .inr t4 =>
      if 0 ≤ t4 ∧ t4 < ((4 : Nat) : Int) then
        if (Int.toNat t4) < 4 then
          (soft_ToInt.f (List.getD a3 (Int.toNat t4) (0 : Int))).bind fun t7 =>
          if 0 ≤ a5 ∧ a5 < ((16 : Nat) : Int) then
            if (Int.toNat a5) < 16 then
              some (.inr ((List.set a0 (Int.toNat a5) t7), a2, a3))
            else none
          else none
        else none
      else none
  else
    if a4 = (40 : Int) then
      if 0 ≤ a6 ∧ a6 < ((16 : Nat) : Int) then
        (cm_float.f a5 a0 a1 a2 a3 a4 a5 a6 a7 a8 a9 a10 a11 a12).bind fun t12 =>
        match t12 with
        | .inl t13 =>
          if (Int.toNat a6) < 16 then
            some (.inl (t13.1, t13.2))
          else none
        | .inr t15 =>
          if (Int.toNat a6) < 16 then
            (soft_FromInt.f (List.getD a0 (Int.toNat a6) (0 : Int))).bind fun t17 =>
            if 0 ≤ t15 ∧ t15 < ((4 : Nat) : Int) then
              if (Int.toNat t15) < 4 then
                some (.inr (a0, a2, (List.set a3 (Int.toNat t15) t17)))
              else none
            else none
          else none
      else none
    else
      if a4 = (38 : Int) then
        (cm_float.f a5 a0 a1 a2 a3 a4 a5 a6 a7 a8 a9 a10 a11 a12).bind fun t21 =>
        match t21 with
        | .inl t22 =>
          some (.inl (t22.1, t22.2))
        | .inr t23 =>
          if 0 ≤ t23 ∧ t23 < ((4 : Nat) : Int) then
            if (Int.toNat t23) < 4 then
              (cm_float.f a6 a0 a1 a2 a3 a4 a5 a6 a7 a8 a9 a10 a11 a12).bind fun t26 =>
              match t26 with
              | .inl t27 =>
                some (.inl (t27.1, t27.2))
              | .inr t28 =>
                if 0 ≤ t28 ∧ t28 < ((4 : Nat) : Int) then
                  if (Int.toNat t28) < 4 then
                    (alu_Cmp.f (List.getD a3 (Int.toNat t23) (0 : Int)) (List.getD a3 (Int.toNat t28) (0 : Int)) a2).bind fun t31 =>
                    some (.inr (a0, t31, a3))
                  else none
                else none
            else none
          else none
      else
        (cm_float.f a5 a0 a1 a2 a3 a4 a5 a6 a7 a8 a9 a10 a11 a12).bind fun t32 =>
        match t32 with
        | .inl t33 =>
          some (.inl (t33.1, t33.2))
        | .inr t34 =>
          if 0 ≤ t34 ∧ t34 < ((4 : Nat) : Int) then
            if (Int.toNat t34) < 4 then
              (cm_float.f a6 a0 a1 a2 a3 a4 a5 a6 a7 a8 a9 a10 a11 a12).bind fun t37 =>
              match t37 with
              | .inl t38 =>
                some (.inl (t38.1, t38.2))
              | .inr t39 =>
                if 0 ≤ t39 ∧ t39 < ((4 : Nat) : Int) then
                  if (Int.toNat t39) < 4 then
                    (alu_Float.f a4 (List.getD a3 (Int.toNat t34) (0 : Int)) (List.getD a3 (Int.toNat t39) (0 : Int))).bind fun t42 =>
                    if ¬ (t42.2 = none) then
                      (cpu_fail.f (4 : Int) a8).bind fun t44 =>
                      some (.inl (t44.1, t44.2))
                    else
                      if 0 ≤ a5 ∧ a5 < ((4 : Nat) : Int) then
                        if (Int.toNat a5) < 4 then
                          some (.inr (a0, a2, (List.set a3 (Int.toNat a5) t42.1)))
                        else none
                      else none
                  else none
                else none
            else none
          else none
def cm_floats.R : (Int × Int) ⊕ ((List Int) × Int × (List Int)) → Tm
  | .inl r => .v (.one (.sc (.iface 64 (.agg #[.int .i64 r.1, .int .u32 r.2]))))
  | .inr r => .tup []
def cm_floats.B (a0 : (List Int)) (a1 : Int) (a2 : Int) (a3 : (List Int)) (a4 : Int) (a5 : Int) (a6 : Int) (a7 : Int) (a8 : Int) (a9 : Int) (a10 : Int) (a11 : Int) (a12 : (List Int)) : (Int × Int) ⊕ ((List Int) × Int × (List Int)) → List Box
  | .inl r => (kB0 a0 a1 a2 a3 a4 a5 a6 a7 a8 a9 a12 a10 a11)
  | .inr r => [.ex false [.c (.ip 29 1), .row 16 (.int .u32) r.1, .c (.sc (.int .u32 a1)), .c (.sc (.int .u32 r.2.1)), .row 4 (.int .u64) r.2.2, .c (.sc (.int .i64 a4)), .c (.sc (.int .i64 a5)), .c (.sc (.int .i64 a6)), .c (.sc (.int .i64 a7)), .c (.sc (.int .u32 a8)), .c (.sc (.int .i64 a9))] 62, .ex false [.c (.os 2 0 0 1 (List.length a12) none), .c (.sc (.int .i64 a10)), .c (.sc (.int .i64 a11))] 33, .fix false (.int .u8) a12 5]
def cm_floats.P : (Int × Int) ⊕ ((List Int) × Int × (List Int)) → Bool
  | .inl _ => true
  | .inr _ => false
theorem cm_floats.P_ : ∀ r : (Int × Int) ⊕ ((List Int) × Int × (List Int)), cm_floats.P r = true → ∃ t p, cm_floats.R r = .v (.one (.sc (.iface t p)))
  | .inl _, h => ⟨_, _, rfl⟩
  | .inr _, h => by cases h
theorem cm_floats.fun_ {a0 : (List Int)} {a1 : Int} {a2 : Int} {a3 : (List Int)} {a4 : Int} {a5 : Int} {a6 : Int} {a7 : Int} {a8 : Int} {a9 : Int} {a10 : Int} {a11 : Int} {a12 : (List Int)} {r : (Int × Int) ⊕ ((List Int) × Int × (List Int))} (h : cm_floats.f a0 a1 a2 a3 a4 a5 a6 a7 a8 a9 a10 a11 a12 = some r) : FunG cfg 28 [.one (.ptr 0 ⟨0, 0, 0, 0⟩)] (kB0 a0 a1 a2 a3 a4 a5 a6 a7 a8 a9 a12 a10 a11) (cm_floats.P r) (cm_floats.R r) (cm_floats.B a0 a1 a2 a3 a4 a5 a6 a7 a8 a9 a10 a11 a12 r) := by
  unfold cm_floats.f at h
  refine funG_of_run cfg_ok (f := 28) (fn := Try.f28) Try.func28 rfl (by kernel_rfl) (rs := []) rfl (nt := 128) rfl (l := fin) (ho := cm_floats.P_ r) (k := (.dr (nd [0, 1, 2, 3, 5, 6, 7, 8, 4, 10, 9, 11] []) (.br (.alt (.drX (nd [0, 1, 2, 3, 4, 6, 7, 8, 12, 13, 14, 5, 9, 10, 11, 15, 16] []) 11 [] (.callX true [] [0, 1, 2] (Int × Int) (fun t3 => (.iface 64 (.agg #[.int .i64 t3.1, .int .u32 t3.2]))) (fun t3 => (cm_float.B a6 a0 a1 a2 a3 a4 a5 a6 a7 a8 a9 a10 a11 a12 (.inl t3))) (fun t3 => (.adj [] .nil)))) (.ex (Int) (fun t4 => (.ex (Int) (fun t7 => (.dr (nd [0, 1, 2, 3, 4, 6, 7, 8, 12, 13, 14] [(5, ⟨none, .callR true [] [0, 1, 2] (cm_float.R (.inr t4)) (cm_float.B a6 a0 a1 a2 a3 a4 a5 a6 a7 a8 a9 a10 a11 a12 (.inr t4)), false⟩), (9, dN), (10, dN), (11, ⟨none, .callP true [] (soft_ToInt.R t7), false⟩), (15, dN), (16, dN)]) (.adj [] .nil))))))) (.br (.alt (.drX (nd [0, 1, 2, 4, 5, 6, 7, 8, 9, 12, 13, 14] ([(10, ⟨none, .no, true⟩)] ++ (nd [3, 11, 15, 16] []))) 13 [] (.callX true [] [0, 1, 2] (Int × Int) (fun t13 => (.iface 64 (.agg #[.int .i64 t13.1, .int .u32 t13.2]))) (fun t13 => (cm_float.B a5 a0 a1 a2 a3 a4 a5 a6 a7 a8 a9 a10 a11 a12 (.inl t13))) (fun t13 => (.adj [] .nil)))) (.ex (Int) (fun t15 => (.ex (Int) (fun t17 => (.drP (nd [0, 1, 2, 4, 5, 6, 7, 8, 9, 12, 13, 14] [(3, ⟨none, .callR true [] [0, 1, 2] (cm_float.R (.inr t15)) (cm_float.B a5 a0 a1 a2 a3 a4 a5 a6 a7 a8 a9 a10 a11 a12 (.inr t15)), true⟩), (10, ⟨none, .no, true⟩), (11, ⟨none, .callP true [] (soft_FromInt.R t17), false⟩), (15, dN), (16, dN)]) [([0, 1, 2, 4, 5, 6, 7, 8, 9, 12, 13, 14, 10, 3, 11, 15, 16], [0, 1, 2])] ⟨([P0, A, vi .i64 a5, vi .i64 a6, A, A, P0, P0, pt 23 0 0, pt 24 0 0, vi .i64 a5, P0, P0, pt 23 0 0, pt 25 0 0, vi .i64 a6, P0, P0, pt 23 0 0, pt 23 0 0, vi .i64 a4] ++ (rA 41 ([vb (a4 == (39 : Int)), vb (a4 == (39 : Int))] ++ (rA 16 ([vb (a4 == (40 : Int)), vb (a4 == (40 : Int)), P0, P0, vi .i64 a5, vi .i64 t15, P0, vi .i64 a6, P0, pt 1 0 0, pt 1 0 0, pt 1 (Int.toNat a6) 1, vi .u32 (List.getD a0 (Int.toNat a6) (0 : Int)), vi .u64 t17, P0, pt 1 0 0, pt 19 0 0, pt 19 (Int.toNat t15) 1] ++ (rA 30 [])))))), [.ex false [.c (.ip 29 1), .row 16 (.int .u32) a0, .c (.sc (.int .u32 a1)), .c (.sc (.int .u32 a2)), .row 4 (.int .u64) (List.set a3 (Int.toNat t15) t17), .c (.sc (.int .i64 a4)), .c (.sc (.int .i64 a5)), .c (.sc (.int .i64 a6)), .c (.sc (.int .i64 a7)), .c (.sc (.int .u32 a8)), .c (.sc (.int .i64 a9))] 62, .ex false [.c (.os 2 0 0 1 (List.length a12) none), .c (.sc (.int .i64 a10)), .c (.sc (.int .i64 a11))] 33, .fix false (.int .u8) a12 5], 3⟩ (.adj [] .nil))))))) (.br (.alt (.drX (nd [0, 1, 2, 3, 5, 6, 7, 10, 11, 12, 14, 15, 16, 19, 20, 21, 22] ([(23, ⟨none, .no, true⟩)] ++ (nd [4, 8, 9, 13, 17, 18, 24, 25, 26, 27, 28] []))) 18 [] (.callX true [] [0, 1, 2] (Int × Int) (fun t22 => (.iface 64 (.agg #[.int .i64 t22.1, .int .u32 t22.2]))) (fun t22 => (cm_float.B a5 a0 a1 a2 a3 a4 a5 a6 a7 a8 a9 a10 a11 a12 (.inl t22))) (fun t22 => (.adj [] .nil)))) (.ex (Int) (fun t23 => (.alt (.drX (nd [0, 1, 2, 3, 5, 6, 7, 10, 11, 12, 14, 15, 16, 19, 20, 21, 22] ([(4, ⟨none, .callR true [] [0, 1, 2] (cm_float.R (.inr t23)) (cm_float.B a5 a0 a1 a2 a3 a4 a5 a6 a7 a8 a9 a10 a11 a12 (.inr t23)), true⟩), (8, dN), (9, ⟨none, .no, true⟩), (23, ⟨none, .no, true⟩)] ++ (nd [13, 17, 18, 24, 25, 26, 27, 28] []))) 21 (ol [0, 1, 2, 3, 5, 6, 7, 10, 11, 12, 14, 15, 16, 19, 20, 21, 22] [[4, 8, 23, 9], [23, 4, 8, 9]]) (.callX true [] [0, 1, 2] (Int × Int) (fun t27 => (.iface 64 (.agg #[.int .i64 t27.1, .int .u32 t27.2]))) (fun t27 => (cm_float.B a6 a0 a1 a2 a3 a4 a5 a6 a7 a8 a9 a10 a11 a12 (.inl t27))) (fun t27 => (.adj [] .nil)))) (.ex (Int) (fun t28 => (.ex (Int) (fun t31 => (.drP (nd [0, 1, 2, 3, 5, 6, 7, 10, 11, 12, 14, 15, 16, 19, 20, 21, 22] ([(4, ⟨none, .callR true [] [0, 1, 2] (cm_float.R (.inr t23)) (cm_float.B a5 a0 a1 a2 a3 a4 a5 a6 a7 a8 a9 a10 a11 a12 (.inr t23)), true⟩), (8, dN), (9, ⟨none, .no, true⟩), (13, ⟨none, .callR true [] [0, 1, 2] (cm_float.R (.inr t28)) (cm_float.B a6 a0 a1 a2 a3 a4 a5 a6 a7 a8 a9 a10 a11 a12 (.inr t28)), true⟩), (17, dN), (18, dN), (23, ⟨none, .no, true⟩), (24, ⟨none, .callP true [] (alu_Cmp.R t31), false⟩)] ++ (nr 25 4 []))) (om [0, 1, 2, 3, 5, 6, 7, 10, 11, 12, 14, 15, 16, 19, 20, 21, 22] [24, 25, 26, 27, 28] [0, 1, 2] [[4, 8, 9, 23, 13, 17, 18], [4, 8, 13, 17, 9, 18, 23], [4, 8, 13, 17, 18, 23, 9], [4, 8, 23, 9, 13, 17, 18], [4, 8, 23, 13, 17, 9, 18], [23, 4, 8, 9, 13, 17, 18], [23, 4, 8, 13, 17, 9, 18]]) ⟨([P0, A, vi .i64 a5, vi .i64 a6, A, A, P0, P0, pt 23 0 0, pt 24 0 0, vi .i64 a5, P0, P0, pt 23 0 0, pt 25 0 0, vi .i64 a6, P0, P0, pt 23 0 0, pt 23 0 0, vi .i64 a4] ++ (rA 41 ([vb (a4 == (39 : Int)), vb (a4 == (39 : Int))] ++ (rA 16 ([vb (a4 == (40 : Int)), vb (a4 == (40 : Int))] ++ (rA 16 [vb (a4 == (38 : Int)), vb (a4 == (38 : Int)), P0, P0, P0, vi .i64 a5, vi .i64 t23, P0, pt 1 0 0, pt 19 0 0, pt 19 (Int.toNat t23) 1, vi .u64 (List.getD a3 (Int.toNat t23) (0 : Int)), P0, P0, vi .i64 a6, vi .i64 t28, P0, pt 1 0 0, pt 19 0 0, pt 19 (Int.toNat t28) 1, vi .u64 (List.getD a3 (Int.toNat t28) (0 : Int)), P0, P0, pt 1 0 0, pt 18 0 0, vi .u32 a2, vi .u32 t31, P0, pt 1 0 0, pt 18 0 0])))))), [.ex false [.c (.ip 29 1), .row 16 (.int .u32) a0, .c (.sc (.int .u32 a1)), .c (.sc (.int .u32 t31)), .row 4 (.int .u64) a3, .c (.sc (.int .i64 a4)), .c (.sc (.int .i64 a5)), .c (.sc (.int .i64 a6)), .c (.sc (.int .i64 a7)), .c (.sc (.int .u32 a8)), .c (.sc (.int .i64 a9))] 62, .ex false [.c (.os 2 0 0 1 (List.length a12) none), .c (.sc (.int .i64 a10)), .c (.sc (.int .i64 a11))] 33, .fix false (.int .u8) a12 5], 3⟩ (.adj [] .nil)))))))))) (.alt (.drX (nd [0, 1, 2, 3, 5, 6, 7, 9, 10, 11, 14, 15, 16, 18, 19, 20] ([(4, ⟨none, .no, true⟩)] ++ (nd [8, 12, 13, 17, 21, 22, 23, 24, 25, 26, 27, 28] []))) 17 [] (.callX true [] [0, 1, 2] (Int × Int) (fun t33 => (.iface 64 (.agg #[.int .i64 t33.1, .int .u32 t33.2]))) (fun t33 => (cm_float.B a5 a0 a1 a2 a3 a4 a5 a6 a7 a8 a9 a10 a11 a12 (.inl t33))) (fun t33 => (.adj [] .nil)))) (.ex (Int) (fun t34 => (.alt (.drX (nd [0, 1, 2, 3, 5, 6, 7, 9, 10, 11, 14, 15, 16, 18, 19, 20] ([(4, ⟨none, .no, true⟩), (8, ⟨none, .callR true [] [0, 1, 2] (cm_float.R (.inr t34)) (cm_float.B a5 a0 a1 a2 a3 a4 a5 a6 a7 a8 a9 a10 a11 a12 (.inr t34)), true⟩), (12, dN), (13, ⟨none, .no, true⟩)] ++ (nd [17, 21, 22, 23, 24, 25, 26, 27, 28] []))) 20 (ol [0, 1, 2, 3, 5, 6, 7, 9, 10, 11, 14, 15, 16, 18, 19, 20, 8, 12] [[4, 13], [13, 4]]) (.callX true [] [0, 1, 2] (Int × Int) (fun t38 => (.iface 64 (.agg #[.int .i64 t38.1, .int .u32 t38.2]))) (fun t38 => (cm_float.B a6 a0 a1 a2 a3 a4 a5 a6 a7 a8 a9 a10 a11 a12 (.inl t38))) (fun t38 => (.adj [] .nil)))) (.ex (Int) (fun t39 => (.ex (Int × (Option Int)) (fun t42 => (.drP (nd [0, 1, 2, 3, 5, 6, 7, 9, 10, 11, 14, 15, 16, 18, 19, 20] ([(4, ⟨none, .no, true⟩), (8, ⟨none, .callR true [] [0, 1, 2] (cm_float.R (.inr t34)) (cm_float.B a5 a0 a1 a2 a3 a4 a5 a6 a7 a8 a9 a10 a11 a12 (.inr t34)), true⟩), (12, dN), (13, ⟨none, .no, true⟩), (17, ⟨none, .callR true [] [0, 1, 2] (cm_float.R (.inr t39)) (cm_float.B a6 a0 a1 a2 a3 a4 a5 a6 a7 a8 a9 a10 a11 a12 (.inr t39)), true⟩), (21, dN), (22, dN), (23, ⟨none, .callP true [] (alu_Float.R t42), false⟩)] ++ (nr 24 5 []))) (om [0, 1, 2, 3, 5, 6, 7, 9, 10, 11, 14, 15, 16, 18, 19, 20] [22, 23, 24, 25, 26, 27, 28] [0, 1, 2] [[4, 8, 12, 17, 21, 13], [8, 12, 4, 13, 17, 21], [8, 12, 4, 17, 21, 13], [8, 12, 13, 4, 17, 21], [8, 12, 13, 17, 21, 4], [8, 12, 17, 21, 4, 13], [8, 12, 17, 21, 13, 4]]) ⟨([P0, A, vi .i64 a5, vi .i64 a6, vi .u64 t42.1, .v (.one (.err t42.2)), P0, P0, pt 23 0 0, pt 24 0 0, vi .i64 a5, P0, P0, pt 23 0 0, pt 25 0 0, vi .i64 a6, P0, P0, pt 23 0 0, pt 23 0 0, vi .i64 a4, .tup [.one (.sc (.int .u64 t42.1)), .one (.err t42.2)], P0, P0, pt 23 0 0, pt 23 0 0, vi .i64 a4, P0, P0, vi .i64 a5, vi .i64 t34, P0, pt 1 0 0, pt 19 0 0, pt 19 (Int.toNat t34) 1, vi .u64 (List.getD a3 (Int.toNat t34) (0 : Int)), P0, P0, vi .i64 a6, vi .i64 t39, P0, pt 1 0 0, pt 19 0 0, pt 19 (Int.toNat t39) 1, vi .u64 (List.getD a3 (Int.toNat t39) (0 : Int)), .tup [.one (.sc (.int .u64 t42.1)), .one (.err t42.2)], vi .u64 t42.1, .v (.one (.err t42.2))] ++ (rA 14 ([vb (a4 == (39 : Int)), vb (a4 == (39 : Int))] ++ (rA 16 ([vb (a4 == (40 : Int)), vb (a4 == (40 : Int))] ++ (rA 16 ([vb (a4 == (38 : Int)), vb (a4 == (38 : Int))] ++ (rA 28 [])))))))), (kB0 a0 a1 a2 a3 a4 a5 a6 a7 a8 a9 a12 a10 a11), 3⟩ (.br (.callX true [] [] (Int × Int) (fun t44 => (.iface 64 (.agg #[.int .i64 t44.1, .int .u32 t44.2]))) (fun t44 => (cpu_fail.B (4 : Int) a8 t44)) (fun t44 => (.adj [] .nil))) (aE 3 .nil)))))))))))))))) (to_goal (q := (U) ∧ (U) ∧ (U) ∧ (U) ∧ (((a4 == (39 : Int)) = true → ((((∃ t3 : Int × Int, (FunX cfg 35 [.one (.ptr 0 ⟨0, 0, 0, 0⟩), .one (.sc (.int .i64 a6))] [(cm_floats.c2 a0 a1 a2 a3 a4 a5 a6 a7 a8 a9), .ex false [.c (.os 2 0 0 1 (List.length a12) none), .c (.sc (.int .i64 a10)), .c (.sc (.int .i64 a11))] 33, .fix false (.int .u8) a12 5] (.iface 64 (.agg #[.int .i64 t3.1, .int .u32 t3.2])) (cm_float.B a6 a0 a1 a2 a3 a4 a5 a6 a7 a8 a9 a10 a11 a12 (.inl t3)) ∧ U) ∧ (cm_floats.P r = true ∧ (U) ∧ (.v (.one (.sc (.iface 64 (.agg #[.int .i64 t3.1, .int .u32 t3.2])))) : Tm) = cm_floats.R r ∧ ([(cm_floats.c2 a0 a1 a2 a3 a4 a5 a6 a7 a8 a9), .ex false [.c (.os 2 0 0 1 (List.length a12) none), .c (.sc (.int .i64 a10)), .c (.sc (.int .i64 a11))] 33, .fix false (.int .u8) a12 5] : List Box) = cm_floats.B a0 a1 a2 a3 a4 a5 a6 a7 a8 a9 a10 a11 a12 r))) ∧ U) ∨ (∃ t4 : Int, (∃ t7 : Int, (Fun cfg 35 [.one (.ptr 0 ⟨0, 0, 0, 0⟩), .one (.sc (.int .i64 a6))] [(cm_floats.c2 a0 a1 a2 a3 a4 a5 a6 a7 a8 a9), .ex false [.c (.os 2 0 0 1 (List.length a12) none), .c (.sc (.int .i64 a10)), .c (.sc (.int .i64 a11))] 33, .fix false (.int .u8) a12 5] (cm_float.R (.inr t4)) (cm_float.B a6 a0 a1 a2 a3 a4 a5 a6 a7 a8 a9 a10 a11 a12 (.inr t4)) ∧ U) ∧ (0 ≤ t4 ∧ t4 < ((4 : Nat) : Int)) ∧ ((Int.toNat t4) < 4) ∧ (Fun cfg 38 [.one (.sc (.int .u64 (List.getD a3 (Int.toNat t4) (0 : Int))))] [] (soft_ToInt.R t7) [] ∧ U) ∧ (0 ≤ a5 ∧ a5 < ((16 : Nat) : Int)) ∧ ((Int.toNat a5) < 16) ∧ (cm_floats.P r = false ∧ (U) ∧ (U) ∧ (.tup [] : Tm) = cm_floats.R r ∧ ([.ex false [.c (.ip 29 1), .row 16 (.int .u32) (List.set a0 (Int.toNat a5) t7), .c (.sc (.int .u32 a1)), .c (.sc (.int .u32 a2)), .row 4 (.int .u64) a3, .c (.sc (.int .i64 a4)), .c (.sc (.int .i64 a5)), .c (.sc (.int .i64 a6)), .c (.sc (.int .i64 a7)), .c (.sc (.int .u32 a8)), .c (.sc (.int .i64 a9))] 62, .ex false [.c (.os 2 0 0 1 (List.length a12) none), .c (.sc (.int .i64 a10)), .c (.sc (.int .i64 a11))] 33, .fix false (.int .u8) a12 5] : List Box) = cm_floats.B a0 a1 a2 a3 a4 a5 a6 a7 a8 a9 a10 a11 a12 r))))) ∧ ((a4 == (39 : Int)) = false → (U) ∧ (((a4 == (40 : Int)) = true → ((((0 ≤ a6 ∧ a6 < ((16 : Nat) : Int)) ∧ ((Int.toNat a6) < 16) ∧ (∃ t13 : Int × Int, (FunX cfg 35 [.one (.ptr 0 ⟨0, 0, 0, 0⟩), .one (.sc (.int .i64 a5))] [(cm_floats.c2 a0 a1 a2 a3 a4 a5 a6 a7 a8 a9), .ex false [.c (.os 2 0 0 1 (List.length a12) none), .c (.sc (.int .i64 a10)), .c (.sc (.int .i64 a11))] 33, .fix false (.int .u8) a12 5] (.iface 64 (.agg #[.int .i64 t13.1, .int .u32 t13.2])) (cm_float.B a5 a0 a1 a2 a3 a4 a5 a6 a7 a8 a9 a10 a11 a12 (.inl t13)) ∧ U) ∧ (cm_floats.P r = true ∧ (U) ∧ (.v (.one (.sc (.iface 64 (.agg #[.int .i64 t13.1, .int .u32 t13.2])))) : Tm) = cm_floats.R r ∧ ([(cm_floats.c2 a0 a1 a2 a3 a4 a5 a6 a7 a8 a9), .ex false [.c (.os 2 0 0 1 (List.length a12) none), .c (.sc (.int .i64 a10)), .c (.sc (.int .i64 a11))] 33, .fix false (.int .u8) a12 5] : List Box) = cm_floats.B a0 a1 a2 a3 a4 a5 a6 a7 a8 a9 a10 a11 a12 r))) ∧ U) ∨ (∃ t15 : Int, (∃ t17 : Int, (((0 ≤ a6 ∧ a6 < ((16 : Nat) : Int)) ∧ (Fun cfg 35 [.one (.ptr 0 ⟨0, 0, 0, 0⟩), .one (.sc (.int .i64 a5))] [(cm_floats.c2 a0 a1 a2 a3 a4 a5 a6 a7 a8 a9), .ex false [.c (.os 2 0 0 1 (List.length a12) none), .c (.sc (.int .i64 a10)), .c (.sc (.int .i64 a11))] 33, .fix false (.int .u8) a12 5] (cm_float.R (.inr t15)) (cm_float.B a5 a0 a1 a2 a3 a4 a5 a6 a7 a8 a9 a10 a11 a12 (.inr t15)) ∧ U) ∧ ((Int.toNat a6) < 16) ∧ (Fun cfg 39 [.one (.sc (.int .u32 (List.getD a0 (Int.toNat a6) (0 : Int))))] [] (soft_FromInt.R t17) [] ∧ U) ∧ (0 ≤ t15 ∧ t15 < ((4 : Nat) : Int)) ∧ ((Int.toNat t15) < 4) ∧ (⟨([P0, A, vi .i64 a5, vi .i64 a6, A, A, P0, P0, pt 23 0 0, pt 24 0 0, vi .i64 a5, P0, P0, pt 23 0 0, pt 25 0 0, vi .i64 a6, P0, P0, pt 23 0 0, pt 23 0 0, vi .i64 a4] ++ (rA 41 ([vb (a4 == (39 : Int)), vb (a4 == (39 : Int))] ++ (rA 16 ([vb (a4 == (40 : Int)), vb (a4 == (40 : Int)), P0, P0, vi .i64 a5, vi .i64 t15, P0, vi .i64 a6, P0, pt 1 0 0, pt 1 0 0, pt 1 (Int.toNat a6) 1, vi .u32 (List.getD a0 (Int.toNat a6) (0 : Int)), vi .u64 t17, P0, pt 1 0 0, pt 19 0 0, pt 19 (Int.toNat t15) 1] ++ (rA 30 [])))))), [(cm_floats.c0 a0 a1 a2 a3 t15 t17 a4 a5 a6 a7 a8 a9), .ex false [.c (.os 2 0 0 1 (List.length a12) none), .c (.sc (.int .i64 a10)), .c (.sc (.int .i64 a11))] 33, .fix false (.int .u8) a12 5], 3⟩ : St) = ⟨([P0, A, vi .i64 a5, vi .i64 a6, A, A, P0, P0, pt 23 0 0, pt 24 0 0, vi .i64 a5, P0, P0, pt 23 0 0, pt 25 0 0, vi .i64 a6, P0, P0, pt 23 0 0, pt 23 0 0, vi .i64 a4] ++ (rA 41 ([vb (a4 == (39 : Int)), vb (a4 == (39 : Int))] ++ (rA 16 ([vb (a4 == (40 : Int)), vb (a4 == (40 : Int)), P0, P0, vi .i64 a5, vi .i64 t15, P0, vi .i64 a6, P0, pt 1 0 0, pt 1 0 0, pt 1 (Int.toNat a6) 1, vi .u32 (List.getD a0 (Int.toNat a6) (0 : Int)), vi .u64 t17, P0, pt 1 0 0, pt 19 0 0, pt 19 (Int.toNat t15) 1] ++ (rA 30 [])))))), [(cm_floats.c0 a0 a1 a2 a3 t15 t17 a4 a5 a6 a7 a8 a9), .ex false [.c (.os 2 0 0 1 (List.length a12) none), .c (.sc (.int .i64 a10)), .c (.sc (.int .i64 a11))] 33, .fix false (.int .u8) a12 5], 3⟩) ∧ (((0 ≤ a6 ∧ a6 < ((16 : Nat) : Int)) ∧ ((Int.toNat a6) < 16) ∧ (Fun cfg 35 [.one (.ptr 0 ⟨0, 0, 0, 0⟩), .one (.sc (.int .i64 a5))] [(cm_floats.c2 a0 a1 a2 a3 a4 a5 a6 a7 a8 a9), .ex false [.c (.os 2 0 0 1 (List.length a12) none), .c (.sc (.int .i64 a10)), .c (.sc (.int .i64 a11))] 33, .fix false (.int .u8) a12 5] (cm_float.R (.inr t15)) (cm_float.B a5 a0 a1 a2 a3 a4 a5 a6 a7 a8 a9 a10 a11 a12 (.inr t15)) ∧ U) ∧ (Fun cfg 39 [.one (.sc (.int .u32 (List.getD a0 (Int.toNat a6) (0 : Int))))] [] (soft_FromInt.R t17) [] ∧ U) ∧ (0 ≤ t15 ∧ t15 < ((4 : Nat) : Int)) ∧ ((Int.toNat t15) < 4) ∧ U ∧ (⟨([P0, A, vi .i64 a5, vi .i64 a6, A, A, P0, P0, pt 23 0 0, pt 24 0 0, vi .i64 a5, P0, P0, pt 23 0 0, pt 25 0 0, vi .i64 a6, P0, P0, pt 23 0 0, pt 23 0 0, vi .i64 a4] ++ (rA 41 ([vb (a4 == (39 : Int)), vb (a4 == (39 : Int))] ++ (rA 16 ([vb (a4 == (40 : Int)), vb (a4 == (40 : Int)), P0, P0, vi .i64 a5, vi .i64 t15, P0, vi .i64 a6, P0, pt 1 0 0, pt 1 0 0, pt 1 (Int.toNat a6) 1, vi .u32 (List.getD a0 (Int.toNat a6) (0 : Int)), vi .u64 t17, P0, pt 1 0 0, pt 19 0 0, pt 19 (Int.toNat t15) 1] ++ (rA 30 [])))))), [(cm_floats.c0 a0 a1 a2 a3 t15 t17 a4 a5 a6 a7 a8 a9), .ex false [.c (.os 2 0 0 1 (List.length a12) none), .c (.sc (.int .i64 a10)), .c (.sc (.int .i64 a11))] 33, .fix false (.int .u8) a12 5], 3⟩ : St) = ⟨([P0, A, vi .i64 a5, vi .i64 a6, A, A, P0, P0, pt 23 0 0, pt 24 0 0, vi .i64 a5, P0, P0, pt 23 0 0, pt 25 0 0, vi .i64 a6, P0, P0, pt 23 0 0, pt 23 0 0, vi .i64 a4] ++ (rA 41 ([vb (a4 == (39 : Int)), vb (a4 == (39 : Int))] ++ (rA 16 ([vb (a4 == (40 : Int)), vb (a4 == (40 : Int)), P0, P0, vi .i64 a5, vi .i64 t15, P0, vi .i64 a6, P0, pt 1 0 0, pt 1 0 0, pt 1 (Int.toNat a6) 1, vi .u32 (List.getD a0 (Int.toNat a6) (0 : Int)), vi .u64 t17, P0, pt 1 0 0, pt 19 0 0, pt 19 (Int.toNat t15) 1] ++ (rA 30 [])))))), [(cm_floats.c0 a0 a1 a2 a3 t15 t17 a4 a5 a6 a7 a8 a9), .ex false [.c (.os 2 0 0 1 (List.length a12) none), .c (.sc (.int .i64 a10)), .c (.sc (.int .i64 a11))] 33, .fix false (.int .u8) a12 5], 3⟩) ∧ U) ∧ (cm_floats.P r = false ∧ (U) ∧ (U) ∧ (.tup [] : Tm) = cm_floats.R r ∧ ([(cm_floats.c0 a0 a1 a2 a3 t15 t17 a4 a5 a6 a7 a8 a9), .ex false [.c (.os 2 0 0 1 (List.length a12) none), .c (.sc (.int .i64 a10)), .c (.sc (.int .i64 a11))] 33, .fix false (.int .u8) a12 5] : List Box) = cm_floats.B a0 a1 a2 a3 a4 a5 a6 a7 a8 a9 a10 a11 a12 r)))))) ∧ ((a4 == (40 : Int)) = false → (U) ∧ (((a4 == (38 : Int)) = true → ((((U) ∧ (∃ t22 : Int × Int, (FunX cfg 35 [.one (.ptr 0 ⟨0, 0, 0, 0⟩), .one (.sc (.int .i64 a5))] [(cm_floats.c2 a0 a1 a2 a3 a4 a5 a6 a7 a8 a9), .ex false [.c (.os 2 0 0 1 (List.length a12) none), .c (.sc (.int .i64 a10)), .c (.sc (.int .i64 a11))] 33, .fix false (.int .u8) a12 5] (.iface 64 (.agg #[.int .i64 t22.1, .int .u32 t22.2])) (cm_float.B a5 a0 a1 a2 a3 a4 a5 a6 a7 a8 a9 a10 a11 a12 (.inl t22)) ∧ U) ∧ (cm_floats.P r = true ∧ (U) ∧ (.v (.one (.sc (.iface 64 (.agg #[.int .i64 t22.1, .int .u32 t22.2])))) : Tm) = cm_floats.R r ∧ ([(cm_floats.c2 a0 a1 a2 a3 a4 a5 a6 a7 a8 a9), .ex false [.c (.os 2 0 0 1 (List.length a12) none), .c (.sc (.int .i64 a10)), .c (.sc (.int .i64 a11))] 33, .fix false (.int .u8) a12 5] : List Box) = cm_floats.B a0 a1 a2 a3 a4 a5 a6 a7 a8 a9 a10 a11 a12 r))) ∧ U) ∨ (∃ t23 : Int, ((((Fun cfg 35 [.one (.ptr 0 ⟨0, 0, 0, 0⟩), .one (.sc (.int .i64 a5))] [(cm_floats.c2 a0 a1 a2 a3 a4 a5 a6 a7 a8 a9), .ex false [.c (.os 2 0 0 1 (List.length a12) none), .c (.sc (.int .i64 a10)), .c (.sc (.int .i64 a11))] 33, .fix false (.int .u8) a12 5] (cm_float.R (.inr t23)) (cm_float.B a5 a0 a1 a2 a3 a4 a5 a6 a7 a8 a9 a10 a11 a12 (.inr t23)) ∧ U) ∧ (0 ≤ t23 ∧ t23 < ((4 : Nat) : Int)) ∧ ((Int.toNat t23) < 4) ∧ (U) ∧ (∃ t27 : Int × Int, (FunX cfg 35 [.one (.ptr 0 ⟨0, 0, 0, 0⟩), .one (.sc (.int .i64 a6))] [(cm_floats.c2 a0 a1 a2 a3 a4 a5 a6 a7 a8 a9), .ex false [.c (.os 2 0 0 1 (List.length a12) none), .c (.sc (.int .i64 a10)), .c (.sc (.int .i64 a11))] 33, .fix false (.int .u8) a12 5] (.iface 64 (.agg #[.int .i64 t27.1, .int .u32 t27.2])) (cm_float.B a6 a0 a1 a2 a3 a4 a5 a6 a7 a8 a9 a10 a11 a12 (.inl t27)) ∧ U) ∧ (cm_floats.P r = true ∧ (U) ∧ (.v (.one (.sc (.iface 64 (.agg #[.int .i64 t27.1, .int .u32 t27.2])))) : Tm) = cm_floats.R r ∧ ([(cm_floats.c2 a0 a1 a2 a3 a4 a5 a6 a7 a8 a9), .ex false [.c (.os 2 0 0 1 (List.length a12) none), .c (.sc (.int .i64 a10)), .c (.sc (.int .i64 a11))] 33, .fix false (.int .u8) a12 5] : List Box) = cm_floats.B a0 a1 a2 a3 a4 a5 a6 a7 a8 a9 a10 a11 a12 r))) ∧ ((Fun cfg 35 [.one (.ptr 0 ⟨0, 0, 0, 0⟩), .one (.sc (.int .i64 a5))] [(cm_floats.c2 a0 a1 a2 a3 a4 a5 a6 a7 a8 a9), .ex false [.c (.os 2 0 0 1 (List.length a12) none), .c (.sc (.int .i64 a10)), .c (.sc (.int .i64 a11))] 33, .fix false (.int .u8) a12 5] (cm_float.R (.inr t23)) (cm_float.B a5 a0 a1 a2 a3 a4 a5 a6 a7 a8 a9 a10 a11 a12 (.inr t23)) ∧ U) ∧ (0 ≤ t23 ∧ t23 < ((4 : Nat) : Int)) ∧ (U) ∧ ((Int.toNat t23) < 4) ∧ (∃ t27 : Int × Int, (FunX cfg 35 [.one (.ptr 0 ⟨0, 0, 0, 0⟩), .one (.sc (.int .i64 a6))] [(cm_floats.c2 a0 a1 a2 a3 a4 a5 a6 a7 a8 a9), .ex false [.c (.os 2 0 0 1 (List.length a12) none), .c (.sc (.int .i64 a10)), .c (.sc (.int .i64 a11))] 33, .fix false (.int .u8) a12 5] (.iface 64 (.agg #[.int .i64 t27.1, .int .u32 t27.2])) (cm_float.B a6 a0 a1 a2 a3 a4 a5 a6 a7 a8 a9 a10 a11 a12 (.inl t27)) ∧ U) ∧ (cm_floats.P r = true ∧ (U) ∧ (.v (.one (.sc (.iface 64 (.agg #[.int .i64 t27.1, .int .u32 t27.2])))) : Tm) = cm_floats.R r ∧ ([(cm_floats.c2 a0 a1 a2 a3 a4 a5 a6 a7 a8 a9), .ex false [.c (.os 2 0 0 1 (List.length a12) none), .c (.sc (.int .i64 a10)), .c (.sc (.int .i64 a11))] 33, .fix false (.int .u8) a12 5] : List Box) = cm_floats.B a0 a1 a2 a3 a4 a5 a6 a7 a8 a9 a10 a11 a12 r))) ∧ ((U) ∧ (Fun cfg 35 [.one (.ptr 0 ⟨0, 0, 0, 0⟩), .one (.sc (.int .i64 a5))] [(cm_floats.c2 a0 a1 a2 a3 a4 a5 a6 a7 a8 a9), .ex false [.c (.os 2 0 0 1 (List.length a12) none), .c (.sc (.int .i64 a10)), .c (.sc (.int .i64 a11))] 33, .fix false (.int .u8) a12 5] (cm_float.R (.inr t23)) (cm_float.B a5 a0 a1 a2 a3 a4 a5 a6 a7 a8 a9 a10 a11 a12 (.inr t23)) ∧ U) ∧ (0 ≤ t23 ∧ t23 < ((4 : Nat) : Int)) ∧ ((Int.toNat t23) < 4) ∧ (∃ t27 : Int × Int, (FunX cfg 35 [.one (.ptr 0 ⟨0, 0, 0, 0⟩), .one (.sc (.int .i64 a6))] [(cm_floats.c2 a0 a1 a2 a3 a4 a5 a6 a7 a8 a9), .ex false [.c (.os 2 0 0 1 (List.length a12) none), .c (.sc (.int .i64 a10)), .c (.sc (.int .i64 a11))] 33, .fix false (.int .u8) a12 5] (.iface 64 (.agg #[.int .i64 t27.1, .int .u32 t27.2])) (cm_float.B a6 a0 a1 a2 a3 a4 a5 a6 a7 a8 a9 a10 a11 a12 (.inl t27)) ∧ U) ∧ (cm_floats.P r = true ∧ (U) ∧ (.v (.one (.sc (.iface 64 (.agg #[.int .i64 t27.1, .int .u32 t27.2])))) : Tm) = cm_floats.R r ∧ ([(cm_floats.c2 a0 a1 a2 a3 a4 a5 a6 a7 a8 a9), .ex false [.c (.os 2 0 0 1 (List.length a12) none), .c (.sc (.int .i64 a10)), .c (.sc (.int .i64 a11))] 33, .fix false (.int .u8) a12 5] : List Box) = cm_floats.B a0 a1 a2 a3 a4 a5 a6 a7 a8 a9 a10 a11 a12 r))) ∧ U) ∨ (∃ t28 : Int, (∃ t31 : Int, (((Fun cfg 35 [.one (.ptr 0 ⟨0, 0, 0, 0⟩), .one (.sc (.int .i64 a5))] [(cm_floats.c2 a0 a1 a2 a3 a4 a5 a6 a7 a8 a9), .ex false [.c (.os 2 0 0 1 (List.length a12) none), .c (.sc (.int .i64 a10)), .c (.sc (.int .i64 a11))] 33, .fix false (.int .u8) a12 5] (cm_float.R (.inr t23)) (cm_float.B a5 a0 a1 a2 a3 a4 a5 a6 a7 a8 a9 a10 a11 a12 (.inr t23)) ∧ U) ∧ (0 ≤ t23 ∧ t23 < ((4 : Nat) : Int)) ∧ ((Int.toNat t23) < 4) ∧ (Fun cfg 35 [.one (.ptr 0 ⟨0, 0, 0, 0⟩), .one (.sc (.int .i64 a6))] [(cm_floats.c2 a0 a1 a2 a3 a4 a5 a6 a7 a8 a9), .ex false [.c (.os 2 0 0 1 (List.length a12) none), .c (.sc (.int .i64 a10)), .c (.sc (.int .i64 a11))] 33, .fix false (.int .u8) a12 5] (cm_float.R (.inr t28)) (cm_float.B a6 a0 a1 a2 a3 a4 a5 a6 a7 a8 a9 a10 a11 a12 (.inr t28)) ∧ U) ∧ (0 ≤ t28 ∧ t28 < ((4 : Nat) : Int)) ∧ ((Int.toNat t28) < 4) ∧ (U) ∧ (Fun cfg 40 [.one (.sc (.int .u64 (List.getD a3 (Int.toNat t23) (0 : Int)))), .one (.sc (.int .u64 (List.getD a3 (Int.toNat t28) (0 : Int)))), .one (.sc (.int .u32 a2))] [] (alu_Cmp.R t31) [] ∧ U) ∧ (U) ∧ (⟨([P0, A, vi .i64 a5, vi .i64 a6, A, A, P0, P0, pt 23 0 0, pt 24 0 0, vi .i64 a5, P0, P0, pt 23 0 0, pt 25 0 0, vi .i64 a6, P0, P0, pt 23 0 0, pt 23 0 0, vi .i64 a4] ++ (rA 41 ([vb (a4 == (39 : Int)), vb (a4 == (39 : Int))] ++ (rA 16 ([vb (a4 == (40 : Int)), vb (a4 == (40 : Int))] ++ (rA 16 [vb (a4 == (38 : Int)), vb (a4 == (38 : Int)), P0, P0, P0, vi .i64 a5, vi .i64 t23, P0, pt 1 0 0, pt 19 0 0, pt 19 (Int.toNat t23) 1, vi .u64 (List.getD a3 (Int.toNat t23) (0 : Int)), P0, P0, vi .i64 a6, vi .i64 t28, P0, pt 1 0 0, pt 19 0 0, pt 19 (Int.toNat t28) 1, vi .u64 (List.getD a3 (Int.toNat t28) (0 : Int)), P0, P0, pt 1 0 0, pt 18 0 0, vi .u32 a2, vi .u32 t31, P0, pt 1 0 0, pt 18 0 0])))))), [(cm_floats.c1 a0 a1 t31 a3 a4 a5 a6 a7 a8 a9), .ex false [.c (.os 2 0 0 1 (List.length a12) none), .c (.sc (.int .i64 a10)), .c (.sc (.int .i64 a11))] 33, .fix false (.int .u8) a12 5], 3⟩ : St) = ⟨([P0, A, vi .i64 a5, vi .i64 a6, A, A, P0, P0, pt 23 0 0, pt 24 0 0, vi .i64 a5, P0, P0, pt 23 0 0, pt 25 0 0, vi .i64 a6, P0, P0, pt 23 0 0, pt 23 0 0, vi .i64 a4] ++ (rA 41 ([vb (a4 == (39 : Int)), vb (a4 == (39 : Int))] ++ (rA 16 ([vb (a4 == (40 : Int)), vb (a4 == (40 : Int))] ++ (rA 16 [vb (a4 == (38 : Int)), vb (a4 == (38 : Int)), P0, P0, P0, vi .i64 a5, vi .i64 t23, P0, pt 1 0 0, pt 19 0 0, pt 19 (Int.toNat t23) 1, vi .u64 (List.getD a3 (Int.toNat t23) (0 : Int)), P0, P0, vi .i64 a6, vi .i64 t28, P0, pt 1 0 0, pt 19 0 0, pt 19 (Int.toNat t28) 1, vi .u64 (List.getD a3 (Int.toNat t28) (0 : Int)), P0, P0, pt 1 0 0, pt 18 0 0, vi .u32 a2, vi .u32 t31, P0, pt 1 0 0, pt 18 0 0])))))), [(cm_floats.c1 a0 a1 t31 a3 a4 a5 a6 a7 a8 a9), .ex false [.c (.os 2 0 0 1 (List.length a12) none), .c (.sc (.int .i64 a10)), .c (.sc (.int .i64 a11))] 33, .fix false (.int .u8) a12 5], 3⟩) ∧ (((Fun cfg 35 [.one (.ptr 0 ⟨0, 0, 0, 0⟩), .one (.sc (.int .i64 a5))] [(cm_floats.c2 a0 a1 a2 a3 a4 a5 a6 a7 a8 a9), .ex false [.c (.os 2 0 0 1 (List.length a12) none), .c (.sc (.int .i64 a10)), .c (.sc (.int .i64 a11))] 33, .fix false (.int .u8) a12 5] (cm_float.R (.inr t23)) (cm_float.B a5 a0 a1 a2 a3 a4 a5 a6 a7 a8 a9 a10 a11 a12 (.inr t23)) ∧ U) ∧ (0 ≤ t23 ∧ t23 < ((4 : Nat) : Int)) ∧ ((Int.toNat t23) < 4) ∧ (U) ∧ (Fun cfg 35 [.one (.ptr 0 ⟨0, 0, 0, 0⟩), .one (.sc (.int .i64 a6))] [(cm_floats.c2 a0 a1 a2 a3 a4 a5 a6 a7 a8 a9), .ex false [.c (.os 2 0 0 1 (List.length a12) none), .c (.sc (.int .i64 a10)), .c (.sc (.int .i64 a11))] 33, .fix false (.int .u8) a12 5] (cm_float.R (.inr t28)) (cm_float.B a6 a0 a1 a2 a3 a4 a5 a6 a7 a8 a9 a10 a11 a12 (.inr t28)) ∧ U) ∧ (0 ≤ t28 ∧ t28 < ((4 : Nat) : Int)) ∧ ((Int.toNat t28) < 4) ∧ (Fun cfg 40 [.one (.sc (.int .u64 (List.getD a3 (Int.toNat t23) (0 : Int)))), .one (.sc (.int .u64 (List.getD a3 (Int.toNat t28) (0 : Int)))), .one (.sc (.int .u32 a2))] [] (alu_Cmp.R t31) [] ∧ U) ∧ (U) ∧ U ∧ (⟨([P0, A, vi .i64 a5, vi .i64 a6, A, A, P0, P0, pt 23 0 0, pt 24 0 0, vi .i64 a5, P0, P0, pt 23 0 0, pt 25 0 0, vi .i64 a6, P0, P0, pt 23 0 0, pt 23 0 0, vi .i64 a4] ++ (rA 41 ([vb (a4 == (39 : Int)), vb (a4 == (39 : Int))] ++ (rA 16 ([vb (a4 == (40 : Int)), vb (a4 == (40 : Int))] ++ (rA 16 [vb (a4 == (38 : Int)), vb (a4 == (38 : Int)), P0, P0, P0, vi .i64 a5, vi .i64 t23, P0, pt 1 0 0, pt 19 0 0, pt 19 (Int.toNat t23) 1, vi .u64 (List.getD a3 (Int.toNat t23) (0 : Int)), P0, P0, vi .i64 a6, vi .i64 t28, P0, pt 1 0 0, pt 19 0 0, pt 19 (Int.toNat t28) 1, vi .u64 (List.getD a3 (Int.toNat t28) (0 : Int)), P0, P0, pt 1 0 0, pt 18 0 0, vi .u32 a2, vi .u32 t31, P0, pt 1 0 0, pt 18 0 0])))))), [(cm_floats.c1 a0 a1 t31 a3 a4 a5 a6 a7 a8 a9), .ex false [.c (.os 2 0 0 1 (List.length a12) none), .c (.sc (.int .i64 a10)), .c (.sc (.int .i64 a11))] 33, .fix false (.int .u8) a12 5], 3⟩ : St) = ⟨([P0, A, vi .i64 a5, vi .i64 a6, A, A, P0, P0, pt 23 0 0, pt 24 0 0, vi .i64 a5, P0, P0, pt 23 0 0, pt 25 0 0, vi .i64 a6, P0, P0, pt 23 0 0, pt 23 0 0, vi .i64 a4] ++ (rA 41 ([vb (a4 == (39 : Int)), vb (a4 == (39 : Int))] ++ (rA 16 ([vb (a4 == (40 : Int)), vb (a4 == (40 : Int))] ++ (rA 16 [vb (a4 == (38 : Int)), vb (a4 == (38 : Int)), P0, P0, P0, vi .i64 a5, vi .i64 t23, P0, pt 1 0 0, pt 19 0 0, pt 19 (Int.toNat t23) 1, vi .u64 (List.getD a3 (Int.toNat t23) (0 : Int)), P0, P0, vi .i64 a6, vi .i64 t28, P0, pt 1 0 0, pt 19 0 0, pt 19 (Int.toNat t28) 1, vi .u64 (List.getD a3 (Int.toNat t28) (0 : Int)), P0, P0, pt 1 0 0, pt 18 0 0, vi .u32 a2, vi .u32 t31, P0, pt 1 0 0, pt 18 0 0])))))), [(cm_floats.c1 a0 a1 t31 a3 a4 a5 a6 a7 a8 a9), .ex false [.c (.os 2 0 0 1 (List.length a12) none), .c (.sc (.int .i64 a10)), .c (.sc (.int .i64 a11))] 33, .fix false (.int .u8) a12 5], 3⟩) ∧ ((Fun cfg 35 [.one (.ptr 0 ⟨0, 0, 0, 0⟩), .one (.sc (.int .i64 a5))] [(cm_floats.c2 a0 a1 a2 a3 a4 a5 a6 a7 a8 a9), .ex false [.c (.os 2 0 0 1 (List.length a12) none), .c (.sc (.int .i64 a10)), .c (.sc (.int .i64 a11))] 33, .fix false (.int .u8) a12 5] (cm_float.R (.inr t23)) (cm_float.B a5 a0 a1 a2 a3 a4 a5 a6 a7 a8 a9 a10 a11 a12 (.inr t23)) ∧ U) ∧ (0 ≤ t23 ∧ t23 < ((4 : Nat) : Int)) ∧ (Fun cfg 35 [.one (.ptr 0 ⟨0, 0, 0, 0⟩), .one (.sc (.int .i64 a6))] [(cm_floats.c2 a0 a1 a2 a3 a4 a5 a6 a7 a8 a9), .ex false [.c (.os 2 0 0 1 (List.length a12) none), .c (.sc (.int .i64 a10)), .c (.sc (.int .i64 a11))] 33, .fix false (.int .u8) a12 5] (cm_float.R (.inr t28)) (cm_float.B a6 a0 a1 a2 a3 a4 a5 a6 a7 a8 a9 a10 a11 a12 (.inr t28)) ∧ U) ∧ (0 ≤ t28 ∧ t28 < ((4 : Nat) : Int)) ∧ ((Int.toNat t23) < 4) ∧ ((Int.toNat t28) < 4) ∧ (U) ∧ (Fun cfg 40 [.one (.sc (.int .u64 (List.getD a3 (Int.toNat t23) (0 : Int)))), .one (.sc (.int .u64 (List.getD a3 (Int.toNat t28) (0 : Int)))), .one (.sc (.int .u32 a2))] [] (alu_Cmp.R t31) [] ∧ U) ∧ (U) ∧ U ∧ (⟨([P0, A, vi .i64 a5, vi .i64 a6, A, A, P0, P0, pt 23 0 0, pt 24 0 0, vi .i64 a5, P0, P0, pt 23 0 0, pt 25 0 0, vi .i64 a6, P0, P0, pt 23 0 0, pt 23 0 0, vi .i64 a4] ++ (rA 41 ([vb (a4 == (39 : Int)), vb (a4 == (39 : Int))] ++ (rA 16 ([vb (a4 == (40 : Int)), vb (a4 == (40 : Int))] ++ (rA 16 [vb (a4 == (38 : Int)), vb (a4 == (38 : Int)), P0, P0, P0, vi .i64 a5, vi .i64 t23, P0, pt 1 0 0, pt 19 0 0, pt 19 (Int.toNat t23) 1, vi .u64 (List.getD a3 (Int.toNat t23) (0 : Int)), P0, P0, vi .i64 a6, vi .i64 t28, P0, pt 1 0 0, pt 19 0 0, pt 19 (Int.toNat t28) 1, vi .u64 (List.getD a3 (Int.toNat t28) (0 : Int)), P0, P0, pt 1 0 0, pt 18 0 0, vi .u32 a2, vi .u32 t31, P0, pt 1 0 0, pt 18 0 0])))))), [(cm_floats.c1 a0 a1 t31 a3 a4 a5 a6 a7 a8 a9), .ex false [.c (.os 2 0 0 1 (List.length a12) none), .c (.sc (.int .i64 a10)), .c (.sc (.int .i64 a11))] 33, .fix false (.int .u8) a12 5], 3⟩ : St) = ⟨([P0, A, vi .i64 a5, vi .i64 a6, A, A, P0, P0, pt 23 0 0, pt 24 0 0, vi .i64 a5, P0, P0, pt 23 0 0, pt 25 0 0, vi .i64 a6, P0, P0, pt 23 0 0, pt 23 0 0, vi .i64 a4] ++ (rA 41 ([vb (a4 == (39 : Int)), vb (a4 == (39 : Int))] ++ (rA 16 ([vb (a4 == (40 : Int)), vb (a4 == (40 : Int))] ++ (rA 16 [vb (a4 == (38 : Int)), vb (a4 == (38 : Int)), P0, P0, P0, vi .i64 a5, vi .i64 t23, P0, pt 1 0 0, pt 19 0 0, pt 19 (Int.toNat t23) 1, vi .u64 (List.getD a3 (Int.toNat t23) (0 : Int)), P0, P0, vi .i64 a6, vi .i64 t28, P0, pt 1 0 0, pt 19 0 0, pt 19 (Int.toNat t28) 1, vi .u64 (List.getD a3 (Int.toNat t28) (0 : Int)), P0, P0, pt 1 0 0, pt 18 0 0, vi .u32 a2, vi .u32 t31, P0, pt 1 0 0, pt 18 0 0])))))), [(cm_floats.c1 a0 a1 t31 a3 a4 a5 a6 a7 a8 a9), .ex false [.c (.os 2 0 0 1 (List.length a12) none), .c (.sc (.int .i64 a10)), .c (.sc (.int .i64 a11))] 33, .fix false (.int .u8) a12 5], 3⟩) ∧ ((Fun cfg 35 [.one (.ptr 0 ⟨0, 0, 0, 0⟩), .one (.sc (.int .i64 a5))] [(cm_floats.c2 a0 a1 a2 a3 a4 a5 a6 a7 a8 a9), .ex false [.c (.os 2 0 0 1 (List.length a12) none), .c (.sc (.int .i64 a10)), .c (.sc (.int .i64 a11))] 33, .fix false (.int .u8) a12 5] (cm_float.R (.inr t23)) (cm_float.B a5 a0 a1 a2 a3 a4 a5 a6 a7 a8 a9 a10 a11 a12 (.inr t23)) ∧ U) ∧ (0 ≤ t23 ∧ t23 < ((4 : Nat) : Int)) ∧ (Fun cfg 35 [.one (.ptr 0 ⟨0, 0, 0, 0⟩), .one (.sc (.int .i64 a6))] [(cm_floats.c2 a0 a1 a2 a3 a4 a5 a6 a7 a8 a9), .ex false [.c (.os 2 0 0 1 (List.length a12) none), .c (.sc (.int .i64 a10)), .c (.sc (.int .i64 a11))] 33, .fix false (.int .u8) a12 5] (cm_float.R (.inr t28)) (cm_float.B a6 a0 a1 a2 a3 a4 a5 a6 a7 a8 a9 a10 a11 a12 (.inr t28)) ∧ U) ∧ (0 ≤ t28 ∧ t28 < ((4 : Nat) : Int)) ∧ ((Int.toNat t28) < 4) ∧ (U) ∧ ((Int.toNat t23) < 4) ∧ (Fun cfg 40 [.one (.sc (.int .u64 (List.getD a3 (Int.toNat t23) (0 : Int)))), .one (.sc (.int .u64 (List.getD a3 (Int.toNat t28) (0 : Int)))), .one (.sc (.int .u32 a2))] [] (alu_Cmp.R t31) [] ∧ U) ∧ (U) ∧ U ∧ (⟨([P0, A, vi .i64 a5, vi .i64 a6, A, A, P0, P0, pt 23 0 0, pt 24 0 0, vi .i64 a5, P0, P0, pt 23 0 0, pt 25 0 0, vi .i64 a6, P0, P0, pt 23 0 0, pt 23 0 0, vi .i64 a4] ++ (rA 41 ([vb (a4 == (39 : Int)), vb (a4 == (39 : Int))] ++ (rA 16 ([vb (a4 == (40 : Int)), vb (a4 == (40 : Int))] ++ (rA 16 [vb (a4 == (38 : Int)), vb (a4 == (38 : Int)), P0, P0, P0, vi .i64 a5, vi .i64 t23, P0, pt 1 0 0, pt 19 0 0, pt 19 (Int.toNat t23) 1, vi .u64 (List.getD a3 (Int.toNat t23) (0 : Int)), P0, P0, vi .i64 a6, vi .i64 t28, P0, pt 1 0 0, pt 19 0 0, pt 19 (Int.toNat t28) 1, vi .u64 (List.getD a3 (Int.toNat t28) (0 : Int)), P0, P0, pt 1 0 0, pt 18 0 0, vi .u32 a2, vi .u32 t31, P0, pt 1 0 0, pt 18 0 0])))))), [(cm_floats.c1 a0 a1 t31 a3 a4 a5 a6 a7 a8 a9), .ex false [.c (.os 2 0 0 1 (List.length a12) none), .c (.sc (.int .i64 a10)), .c (.sc (.int .i64 a11))] 33, .fix false (.int .u8) a12 5], 3⟩ : St) = ⟨([P0, A, vi .i64 a5, vi .i64 a6, A, A, P0, P0, pt 23 0 0, pt 24 0 0, vi .i64 a5, P0, P0, pt 23 0 0, pt 25 0 0, vi .i64 a6, P0, P0, pt 23 0 0, pt 23 0 0, vi .i64 a4] ++ (rA 41 ([vb (a4 == (39 : Int)), vb (a4 == (39 : Int))] ++ (rA 16 ([vb (a4 == (40 : Int)), vb (a4 == (40 : Int))] ++ (rA 16 [vb (a4 == (38 : Int)), vb (a4 == (38 : Int)), P0, P0, P0, vi .i64 a5, vi .i64 t23, P0, pt 1 0 0, pt 19 0 0, pt 19 (Int.toNat t23) 1, vi .u64 (List.getD a3 (Int.toNat t23) (0 : Int)), P0, P0, vi .i64 a6, vi .i64 t28, P0, pt 1 0 0, pt 19 0 0, pt 19 (Int.toNat t28) 1, vi .u64 (List.getD a3 (Int.toNat t28) (0 : Int)), P0, P0, pt 1 0 0, pt 18 0 0, vi .u32 a2, vi .u32 t31, P0, pt 1 0 0, pt 18 0 0])))))), [(cm_floats.c1 a0 a1 t31 a3 a4 a5 a6 a7 a8 a9), .ex false [.c (.os 2 0 0 1 (List.length a12) none), .c (.sc (.int .i64 a10)), .c (.sc (.int .i64 a11))] 33, .fix false (.int .u8) a12 5], 3⟩) ∧ ((Fun cfg 35 [.one (.ptr 0 ⟨0, 0, 0, 0⟩), .one (.sc (.int .i64 a5))] [(cm_floats.c2 a0 a1 a2 a3 a4 a5 a6 a7 a8 a9), .ex false [.c (.os 2 0 0 1 (List.length a12) none), .c (.sc (.int .i64 a10)), .c (.sc (.int .i64 a11))] 33, .fix false (.int .u8) a12 5] (cm_float.R (.inr t23)) (cm_float.B a5 a0 a1 a2 a3 a4 a5 a6 a7 a8 a9 a10 a11 a12 (.inr t23)) ∧ U) ∧ (0 ≤ t23 ∧ t23 < ((4 : Nat) : Int)) ∧ (U) ∧ ((Int.toNat t23) < 4) ∧ (Fun cfg 35 [.one (.ptr 0 ⟨0, 0, 0, 0⟩), .one (.sc (.int .i64 a6))] [(cm_floats.c2 a0 a1 a2 a3 a4 a5 a6 a7 a8 a9), .ex false [.c (.os 2 0 0 1 (List.length a12) none), .c (.sc (.int .i64 a10)), .c (.sc (.int .i64 a11))] 33, .fix false (.int .u8) a12 5] (cm_float.R (.inr t28)) (cm_float.B a6 a0 a1 a2 a3 a4 a5 a6 a7 a8 a9 a10 a11 a12 (.inr t28)) ∧ U) ∧ (0 ≤ t28 ∧ t28 < ((4 : Nat) : Int)) ∧ ((Int.toNat t28) < 4) ∧ (Fun cfg 40 [.one (.sc (.int .u64 (List.getD a3 (Int.toNat t23) (0 : Int)))), .one (.sc (.int .u64 (List.getD a3 (Int.toNat t28) (0 : Int)))), .one (.sc (.int .u32 a2))] [] (alu_Cmp.R t31) [] ∧ U) ∧ (U) ∧ U ∧ (⟨([P0, A, vi .i64 a5, vi .i64 a6, A, A, P0, P0, pt 23 0 0, pt 24 0 0, vi .i64 a5, P0, P0, pt 23 0 0, pt 25 0 0, vi .i64 a6, P0, P0, pt 23 0 0, pt 23 0 0, vi .i64 a4] ++ (rA 41 ([vb (a4 == (39 : Int)), vb (a4 == (39 : Int))] ++ (rA 16 ([vb (a4 == (40 : Int)), vb (a4 == (40 : Int))] ++ (rA 16 [vb (a4 == (38 : Int)), vb (a4 == (38 : Int)), P0, P0, P0, vi .i64 a5, vi .i64 t23, P0, pt 1 0 0, pt 19 0 0, pt 19 (Int.toNat t23) 1, vi .u64 (List.getD a3 (Int.toNat t23) (0 : Int)), P0, P0, vi .i64 a6, vi .i64 t28, P0, pt 1 0 0, pt 19 0 0, pt 19 (Int.toNat t28) 1, vi .u64 (List.getD a3 (Int.toNat t28) (0 : Int)), P0, P0, pt 1 0 0, pt 18 0 0, vi .u32 a2, vi .u32 t31, P0, pt 1 0 0, pt 18 0 0])))))), [(cm_floats.c1 a0 a1 t31 a3 a4 a5 a6 a7 a8 a9), .ex false [.c (.os 2 0 0 1 (List.length a12) none), .c (.sc (.int .i64 a10)), .c (.sc (.int .i64 a11))] 33, .fix false (.int .u8) a12 5], 3⟩ : St) = ⟨([P0, A, vi .i64 a5, vi .i64 a6, A, A, P0, P0, pt 23 0 0, pt 24 0 0, vi .i64 a5, P0, P0, pt 23 0 0, pt 25 0 0, vi .i64 a6, P0, P0, pt 23 0 0, pt 23 0 0, vi .i64 a4] ++ (rA 41 ([vb (a4 == (39 : Int)), vb (a4 == (39 : Int))] ++ (rA 16 ([vb (a4 == (40 : Int)), vb (a4 == (40 : Int))] ++ (rA 16 [vb (a4 == (38 : Int)), vb (a4 == (38 : Int)), P0, P0, P0, vi .i64 a5, vi .i64 t23, P0, pt 1 0 0, pt 19 0 0, pt 19 (Int.toNat t23) 1, vi .u64 (List.getD a3 (Int.toNat t23) (0 : Int)), P0, P0, vi .i64 a6, vi .i64 t28, P0, pt 1 0 0, pt 19 0 0, pt 19 (Int.toNat t28) 1, vi .u64 (List.getD a3 (Int.toNat t28) (0 : Int)), P0, P0, pt 1 0 0, pt 18 0 0, vi .u32 a2, vi .u32 t31, P0, pt 1 0 0, pt 18 0 0])))))), [(cm_floats.c1 a0 a1 t31 a3 a4 a5 a6 a7 a8 a9), .ex false [.c (.os 2 0 0 1 (List.length a12) none), .c (.sc (.int .i64 a10)), .c (.sc (.int .i64 a11))] 33, .fix false (.int .u8) a12 5], 3⟩) ∧ ((Fun cfg 35 [.one (.ptr 0 ⟨0, 0, 0, 0⟩), .one (.sc (.int .i64 a5))] [(cm_floats.c2 a0 a1 a2 a3 a4 a5 a6 a7 a8 a9), .ex false [.c (.os 2 0 0 1 (List.length a12) none), .c (.sc (.int .i64 a10)), .c (.sc (.int .i64 a11))] 33, .fix false (.int .u8) a12 5] (cm_float.R (.inr t23)) (cm_float.B a5 a0 a1 a2 a3 a4 a5 a6 a7 a8 a9 a10 a11 a12 (.inr t23)) ∧ U) ∧ (0 ≤ t23 ∧ t23 < ((4 : Nat) : Int)) ∧ (U) ∧ (Fun cfg 35 [.one (.ptr 0 ⟨0, 0, 0, 0⟩), .one (.sc (.int .i64 a6))] [(cm_floats.c2 a0 a1 a2 a3 a4 a5 a6 a7 a8 a9), .ex false [.c (.os 2 0 0 1 (List.length a12) none), .c (.sc (.int .i64 a10)), .c (.sc (.int .i64 a11))] 33, .fix false (.int .u8) a12 5] (cm_float.R (.inr t28)) (cm_float.B a6 a0 a1 a2 a3 a4 a5 a6 a7 a8 a9 a10 a11 a12 (.inr t28)) ∧ U) ∧ (0 ≤ t28 ∧ t28 < ((4 : Nat) : Int)) ∧ ((Int.toNat t23) < 4) ∧ ((Int.toNat t28) < 4) ∧ (Fun cfg 40 [.one (.sc (.int .u64 (List.getD a3 (Int.toNat t23) (0 : Int)))), .one (.sc (.int .u64 (List.getD a3 (Int.toNat t28) (0 : Int)))), .one (.sc (.int .u32 a2))] [] (alu_Cmp.R t31) [] ∧ U) ∧ (U) ∧ U ∧ (⟨([P0, A, vi .i64 a5, vi .i64 a6, A, A, P0, P0, pt 23 0 0, pt 24 0 0, vi .i64 a5, P0, P0, pt 23 0 0, pt 25 0 0, vi .i64 a6, P0, P0, pt 23 0 0, pt 23 0 0, vi .i64 a4] ++ (rA 41 ([vb (a4 == (39 : Int)), vb (a4 == (39 : Int))] ++ (rA 16 ([vb (a4 == (40 : Int)), vb (a4 == (40 : Int))] ++ (rA 16 [vb (a4 == (38 : Int)), vb (a4 == (38 : Int)), P0, P0, P0, vi .i64 a5, vi .i64 t23, P0, pt 1 0 0, pt 19 0 0, pt 19 (Int.toNat t23) 1, vi .u64 (List.getD a3 (Int.toNat t23) (0 : Int)), P0, P0, vi .i64 a6, vi .i64 t28, P0, pt 1 0 0, pt 19 0 0, pt 19 (Int.toNat t28) 1, vi .u64 (List.getD a3 (Int.toNat t28) (0 : Int)), P0, P0, pt 1 0 0, pt 18 0 0, vi .u32 a2, vi .u32 t31, P0, pt 1 0 0, pt 18 0 0])))))), [(cm_floats.c1 a0 a1 t31 a3 a4 a5 a6 a7 a8 a9), .ex false [.c (.os 2 0 0 1 (List.length a12) none), .c (.sc (.int .i64 a10)), .c (.sc (.int .i64 a11))] 33, .fix false (.int .u8) a12 5], 3⟩ : St) = ⟨([P0, A, vi .i64 a5, vi .i64 a6, A, A, P0, P0, pt 23 0 0, pt 24 0 0, vi .i64 a5, P0, P0, pt 23 0 0, pt 25 0 0, vi .i64 a6, P0, P0, pt 23 0 0, pt 23 0 0, vi .i64 a4] ++ (rA 41 ([vb (a4 == (39 : Int)), vb (a4 == (39 : Int))] ++ (rA 16 ([vb (a4 == (40 : Int)), vb (a4 == (40 : Int))] ++ (rA 16 [vb (a4 == (38 : Int)), vb (a4 == (38 : Int)), P0, P0, P0, vi .i64 a5, vi .i64 t23, P0, pt 1 0 0, pt 19 0 0, pt 19 (Int.toNat t23) 1, vi .u64 (List.getD a3 (Int.toNat t23) (0 : Int)), P0, P0, vi .i64 a6, vi .i64 t28, P0, pt 1 0 0, pt 19 0 0, pt 19 (Int.toNat t28) 1, vi .u64 (List.getD a3 (Int.toNat t28) (0 : Int)), P0, P0, pt 1 0 0, pt 18 0 0, vi .u32 a2, vi .u32 t31, P0, pt 1 0 0, pt 18 0 0])))))), [(cm_floats.c1 a0 a1 t31 a3 a4 a5 a6 a7 a8 a9), .ex false [.c (.os 2 0 0 1 (List.length a12) none), .c (.sc (.int .i64 a10)), .c (.sc (.int .i64 a11))] 33, .fix false (.int .u8) a12 5], 3⟩) ∧ ((U) ∧ (Fun cfg 35 [.one (.ptr 0 ⟨0, 0, 0, 0⟩), .one (.sc (.int .i64 a5))] [(cm_floats.c2 a0 a1 a2 a3 a4 a5 a6 a7 a8 a9), .ex false [.c (.os 2 0 0 1 (List.length a12) none), .c (.sc (.int .i64 a10)), .c (.sc (.int .i64 a11))] 33, .fix false (.int .u8) a12 5] (cm_float.R (.inr t23)) (cm_float.B a5 a0 a1 a2 a3 a4 a5 a6 a7 a8 a9 a10 a11 a12 (.inr t23)) ∧ U) ∧ (0 ≤ t23 ∧ t23 < ((4 : Nat) : Int)) ∧ ((Int.toNat t23) < 4) ∧ (Fun cfg 35 [.one (.ptr 0 ⟨0, 0, 0, 0⟩), .one (.sc (.int .i64 a6))] [(cm_floats.c2 a0 a1 a2 a3 a4 a5 a6 a7 a8 a9), .ex false [.c (.os 2 0 0 1 (List.length a12) none), .c (.sc (.int .i64 a10)), .c (.sc (.int .i64 a11))] 33, .fix false (.int .u8) a12 5] (cm_float.R (.inr t28)) (cm_float.B a6 a0 a1 a2 a3 a4 a5 a6 a7 a8 a9 a10 a11 a12 (.inr t28)) ∧ U) ∧ (0 ≤ t28 ∧ t28 < ((4 : Nat) : Int)) ∧ ((Int.toNat t28) < 4) ∧ (Fun cfg 40 [.one (.sc (.int .u64 (List.getD a3 (Int.toNat t23) (0 : Int)))), .one (.sc (.int .u64 (List.getD a3 (Int.toNat t28) (0 : Int)))), .one (.sc (.int .u32 a2))] [] (alu_Cmp.R t31) [] ∧ U) ∧ (U) ∧ U ∧ (⟨([P0, A, vi .i64 a5, vi .i64 a6, A, A, P0, P0, pt 23 0 0, pt 24 0 0, vi .i64 a5, P0, P0, pt 23 0 0, pt 25 0 0, vi .i64 a6, P0, P0, pt 23 0 0, pt 23 0 0, vi .i64 a4] ++ (rA 41 ([vb (a4 == (39 : Int)), vb (a4 == (39 : Int))] ++ (rA 16 ([vb (a4 == (40 : Int)), vb (a4 == (40 : Int))] ++ (rA 16 [vb (a4 == (38 : Int)), vb (a4 == (38 : Int)), P0, P0, P0, vi .i64 a5, vi .i64 t23, P0, pt 1 0 0, pt 19 0 0, pt 19 (Int.toNat t23) 1, vi .u64 (List.getD a3 (Int.toNat t23) (0 : Int)), P0, P0, vi .i64 a6, vi .i64 t28, P0, pt 1 0 0, pt 19 0 0, pt 19 (Int.toNat t28) 1, vi .u64 (List.getD a3 (Int.toNat t28) (0 : Int)), P0, P0, pt 1 0 0, pt 18 0 0, vi .u32 a2, vi .u32 t31, P0, pt 1 0 0, pt 18 0 0])))))), [(cm_floats.c1 a0 a1 t31 a3 a4 a5 a6 a7 a8 a9), .ex false [.c (.os 2 0 0 1 (List.length a12) none), .c (.sc (.int .i64 a10)), .c (.sc (.int .i64 a11))] 33, .fix false (.int .u8) a12 5], 3⟩ : St) = ⟨([P0, A, vi .i64 a5, vi .i64 a6, A, A, P0, P0, pt 23 0 0, pt 24 0 0, vi .i64 a5, P0, P0, pt 23 0 0, pt 25 0 0, vi .i64 a6, P0, P0, pt 23 0 0, pt 23 0 0, vi .i64 a4] ++ (rA 41 ([vb (a4 == (39 : Int)), vb (a4 == (39 : Int))] ++ (rA 16 ([vb (a4 == (40 : Int)), vb (a4 == (40 : Int))] ++ (rA 16 [vb (a4 == (38 : Int)), vb (a4 == (38 : Int)), P0, P0, P0, vi .i64 a5, vi .i64 t23, P0, pt 1 0 0, pt 19 0 0, pt 19 (Int.toNat t23) 1, vi .u64 (List.getD a3 (Int.toNat t23) (0 : Int)), P0, P0, vi .i64 a6, vi .i64 t28, P0, pt 1 0 0, pt 19 0 0, pt 19 (Int.toNat t28) 1, vi .u64 (List.getD a3 (Int.toNat t28) (0 : Int)), P0, P0, pt 1 0 0, pt 18 0 0, vi .u32 a2, vi .u32 t31, P0, pt 1 0 0, pt 18 0 0])))))), [(cm_floats.c1 a0 a1 t31 a3 a4 a5 a6 a7 a8 a9), .ex false [.c (.os 2 0 0 1 (List.length a12) none), .c (.sc (.int .i64 a10)), .c (.sc (.int .i64 a11))] 33, .fix false (.int .u8) a12 5], 3⟩) ∧ ((U) ∧ (Fun cfg 35 [.one (.ptr 0 ⟨0, 0, 0, 0⟩), .one (.sc (.int .i64 a5))] [(cm_floats.c2 a0 a1 a2 a3 a4 a5 a6 a7 a8 a9), .ex false [.c (.os 2 0 0 1 (List.length a12) none), .c (.sc (.int .i64 a10)), .c (.sc (.int .i64 a11))] 33, .fix false (.int .u8) a12 5] (cm_float.R (.inr t23)) (cm_float.B a5 a0 a1 a2 a3 a4 a5 a6 a7 a8 a9 a10 a11 a12 (.inr t23)) ∧ U) ∧ (0 ≤ t23 ∧ t23 < ((4 : Nat) : Int)) ∧ (Fun cfg 35 [.one (.ptr 0 ⟨0, 0, 0, 0⟩), .one (.sc (.int .i64 a6))] [(cm_floats.c2 a0 a1 a2 a3 a4 a5 a6 a7 a8 a9), .ex false [.c (.os 2 0 0 1 (List.length a12) none), .c (.sc (.int .i64 a10)), .c (.sc (.int .i64 a11))] 33, .fix false (.int .u8) a12 5] (cm_float.R (.inr t28)) (cm_float.B a6 a0 a1 a2 a3 a4 a5 a6 a7 a8 a9 a10 a11 a12 (.inr t28)) ∧ U) ∧ (0 ≤ t28 ∧ t28 < ((4 : Nat) : Int)) ∧ ((Int.toNat t23) < 4) ∧ ((Int.toNat t28) < 4) ∧ (Fun cfg 40 [.one (.sc (.int .u64 (List.getD a3 (Int.toNat t23) (0 : Int)))), .one (.sc (.int .u64 (List.getD a3 (Int.toNat t28) (0 : Int)))), .one (.sc (.int .u32 a2))] [] (alu_Cmp.R t31) [] ∧ U) ∧ (U) ∧ U ∧ (⟨([P0, A, vi .i64 a5, vi .i64 a6, A, A, P0, P0, pt 23 0 0, pt 24 0 0, vi .i64 a5, P0, P0, pt 23 0 0, pt 25 0 0, vi .i64 a6, P0, P0, pt 23 0 0, pt 23 0 0, vi .i64 a4] ++ (rA 41 ([vb (a4 == (39 : Int)), vb (a4 == (39 : Int))] ++ (rA 16 ([vb (a4 == (40 : Int)), vb (a4 == (40 : Int))] ++ (rA 16 [vb (a4 == (38 : Int)), vb (a4 == (38 : Int)), P0, P0, P0, vi .i64 a5, vi .i64 t23, P0, pt 1 0 0, pt 19 0 0, pt 19 (Int.toNat t23) 1, vi .u64 (List.getD a3 (Int.toNat t23) (0 : Int)), P0, P0, vi .i64 a6, vi .i64 t28, P0, pt 1 0 0, pt 19 0 0, pt 19 (Int.toNat t28) 1, vi .u64 (List.getD a3 (Int.toNat t28) (0 : Int)), P0, P0, pt 1 0 0, pt 18 0 0, vi .u32 a2, vi .u32 t31, P0, pt 1 0 0, pt 18 0 0])))))), [(cm_floats.c1 a0 a1 t31 a3 a4 a5 a6 a7 a8 a9), .ex false [.c (.os 2 0 0 1 (List.length a12) none), .c (.sc (.int .i64 a10)), .c (.sc (.int .i64 a11))] 33, .fix false (.int .u8) a12 5], 3⟩ : St) = ⟨([P0, A, vi .i64 a5, vi .i64 a6, A, A, P0, P0, pt 23 0 0, pt 24 0 0, vi .i64 a5, P0, P0, pt 23 0 0, pt 25 0 0, vi .i64 a6, P0, P0, pt 23 0 0, pt 23 0 0, vi .i64 a4] ++ (rA 41 ([vb (a4 == (39 : Int)), vb (a4 == (39 : Int))] ++ (rA 16 ([vb (a4 == (40 : Int)), vb (a4 == (40 : Int))] ++ (rA 16 [vb (a4 == (38 : Int)), vb (a4 == (38 : Int)), P0, P0, P0, vi .i64 a5, vi .i64 t23, P0, pt 1 0 0, pt 19 0 0, pt 19 (Int.toNat t23) 1, vi .u64 (List.getD a3 (Int.toNat t23) (0 : Int)), P0, P0, vi .i64 a6, vi .i64 t28, P0, pt 1 0 0, pt 19 0 0, pt 19 (Int.toNat t28) 1, vi .u64 (List.getD a3 (Int.toNat t28) (0 : Int)), P0, P0, pt 1 0 0, pt 18 0 0, vi .u32 a2, vi .u32 t31, P0, pt 1 0 0, pt 18 0 0])))))), [(cm_floats.c1 a0 a1 t31 a3 a4 a5 a6 a7 a8 a9), .ex false [.c (.os 2 0 0 1 (List.length a12) none), .c (.sc (.int .i64 a10)), .c (.sc (.int .i64 a11))] 33, .fix false (.int .u8) a12 5], 3⟩) ∧ U) ∧ (cm_floats.P r = false ∧ (U) ∧ (U) ∧ (.tup [] : Tm) = cm_floats.R r ∧ ([(cm_floats.c1 a0 a1 t31 a3 a4 a5 a6 a7 a8 a9), .ex false [.c (.os 2 0 0 1 (List.length a12) none), .c (.sc (.int .i64 a10)), .c (.sc (.int .i64 a11))] 33, .fix false (.int .u8) a12 5] : List Box) = cm_floats.B a0 a1 a2 a3 a4 a5 a6 a7 a8 a9 a10 a11 a12 r)))))))) ∧ ((a4 == (38 : Int)) = false → ((((U) ∧ (∃ t33 : Int × Int, (FunX cfg 35 [.one (.ptr 0 ⟨0, 0, 0, 0⟩), .one (.sc (.int .i64 a5))] [(cm_floats.c2 a0 a1 a2 a3 a4 a5 a6 a7 a8 a9), .ex false [.c (.os 2 0 0 1 (List.length a12) none), .c (.sc (.int .i64 a10)), .c (.sc (.int .i64 a11))] 33, .fix false (.int .u8) a12 5] (.iface 64 (.agg #[.int .i64 t33.1, .int .u32 t33.2])) (cm_float.B a5 a0 a1 a2 a3 a4 a5 a6 a7 a8 a9 a10 a11 a12 (.inl t33)) ∧ U) ∧ (cm_floats.P r = true ∧ (U) ∧ (.v (.one (.sc (.iface 64 (.agg #[.int .i64 t33.1, .int .u32 t33.2])))) : Tm) = cm_floats.R r ∧ ([(cm_floats.c2 a0 a1 a2 a3 a4 a5 a6 a7 a8 a9), .ex false [.c (.os 2 0 0 1 (List.length a12) none), .c (.sc (.int .i64 a10)), .c (.sc (.int .i64 a11))] 33, .fix false (.int .u8) a12 5] : List Box) = cm_floats.B a0 a1 a2 a3 a4 a5 a6 a7 a8 a9 a10 a11 a12 r))) ∧ U) ∨ (∃ t34 : Int, ((((U) ∧ (Fun cfg 35 [.one (.ptr 0 ⟨0, 0, 0, 0⟩), .one (.sc (.int .i64 a5))] [(cm_floats.c2 a0 a1 a2 a3 a4 a5 a6 a7 a8 a9), .ex false [.c (.os 2 0 0 1 (List.length a12) none), .c (.sc (.int .i64 a10)), .c (.sc (.int .i64 a11))] 33, .fix false (.int .u8) a12 5] (cm_float.R (.inr t34)) (cm_float.B a5 a0 a1 a2 a3 a4 a5 a6 a7 a8 a9 a10 a11 a12 (.inr t34)) ∧ U) ∧ (0 ≤ t34 ∧ t34 < ((4 : Nat) : Int)) ∧ ((Int.toNat t34) < 4) ∧ (∃ t38 : Int × Int, (FunX cfg 35 [.one (.ptr 0 ⟨0, 0, 0, 0⟩), .one (.sc (.int .i64 a6))] [(cm_floats.c2 a0 a1 a2 a3 a4 a5 a6 a7 a8 a9), .ex false [.c (.os 2 0 0 1 (List.length a12) none), .c (.sc (.int .i64 a10)), .c (.sc (.int .i64 a11))] 33, .fix false (.int .u8) a12 5] (.iface 64 (.agg #[.int .i64 t38.1, .int .u32 t38.2])) (cm_float.B a6 a0 a1 a2 a3 a4 a5 a6 a7 a8 a9 a10 a11 a12 (.inl t38)) ∧ U) ∧ (cm_floats.P r = true ∧ (U) ∧ (.v (.one (.sc (.iface 64 (.agg #[.int .i64 t38.1, .int .u32 t38.2])))) : Tm) = cm_floats.R r ∧ ([(cm_floats.c2 a0 a1 a2 a3 a4 a5 a6 a7 a8 a9), .ex false [.c (.os 2 0 0 1 (List.length a12) none), .c (.sc (.int .i64 a10)), .c (.sc (.int .i64 a11))] 33, .fix false (.int .u8) a12 5] : List Box) = cm_floats.B a0 a1 a2 a3 a4 a5 a6 a7 a8 a9 a10 a11 a12 r))) ∧ ((Fun cfg 35 [.one (.ptr 0 ⟨0, 0, 0, 0⟩), .one (.sc (.int .i64 a5))] [(cm_floats.c2 a0 a1 a2 a3 a4 a5 a6 a7 a8 a9), .ex false [.c (.os 2 0 0 1 (List.length a12) none), .c (.sc (.int .i64 a10)), .c (.sc (.int .i64 a11))] 33, .fix false (.int .u8) a12 5] (cm_float.R (.inr t34)) (cm_float.B a5 a0 a1 a2 a3 a4 a5 a6 a7 a8 a9 a10 a11 a12 (.inr t34)) ∧ U) ∧ (0 ≤ t34 ∧ t34 < ((4 : Nat) : Int)) ∧ (U) ∧ ((Int.toNat t34) < 4) ∧ (∃ t38 : Int × Int, (FunX cfg 35 [.one (.ptr 0 ⟨0, 0, 0, 0⟩), .one (.sc (.int .i64 a6))] [(cm_floats.c2 a0 a1 a2 a3 a4 a5 a6 a7 a8 a9), .ex false [.c (.os 2 0 0 1 (List.length a12) none), .c (.sc (.int .i64 a10)), .c (.sc (.int .i64 a11))] 33, .fix false (.int .u8) a12 5] (.iface 64 (.agg #[.int .i64 t38.1, .int .u32 t38.2])) (cm_float.B a6 a0 a1 a2 a3 a4 a5 a6 a7 a8 a9 a10 a11 a12 (.inl t38)) ∧ U) ∧ (cm_floats.P r = true ∧ (U) ∧ (.v (.one (.sc (.iface 64 (.agg #[.int .i64 t38.1, .int .u32 t38.2])))) : Tm) = cm_floats.R r ∧ ([(cm_floats.c2 a0 a1 a2 a3 a4 a5 a6 a7 a8 a9), .ex false [.c (.os 2 0 0 1 (List.length a12) none), .c (.sc (.int .i64 a10)), .c (.sc (.int .i64 a11))] 33, .fix false (.int .u8) a12 5] : List Box) = cm_floats.B a0 a1 a2 a3 a4 a5 a6 a7 a8 a9 a10 a11 a12 r))) ∧ ((Fun cfg 35 [.one (.ptr 0 ⟨0, 0, 0, 0⟩), .one (.sc (.int .i64 a5))] [(cm_floats.c2 a0 a1 a2 a3 a4 a5 a6 a7 a8 a9), .ex false [.c (.os 2 0 0 1 (List.length a12) none), .c (.sc (.int .i64 a10)), .c (.sc (.int .i64 a11))] 33, .fix false (.int .u8) a12 5] (cm_float.R (.inr t34)) (cm_float.B a5 a0 a1 a2 a3 a4 a5 a6 a7 a8 a9 a10 a11 a12 (.inr t34)) ∧ U) ∧ (0 ≤ t34 ∧ t34 < ((4 : Nat) : Int)) ∧ ((Int.toNat t34) < 4) ∧ (U) ∧ (∃ t38 : Int × Int, (FunX cfg 35 [.one (.ptr 0 ⟨0, 0, 0, 0⟩), .one (.sc (.int .i64 a6))] [(cm_floats.c2 a0 a1 a2 a3 a4 a5 a6 a7 a8 a9), .ex false [.c (.os 2 0 0 1 (List.length a12) none), .c (.sc (.int .i64 a10)), .c (.sc (.int .i64 a11))] 33, .fix false (.int .u8) a12 5] (.iface 64 (.agg #[.int .i64 t38.1, .int .u32 t38.2])) (cm_float.B a6 a0 a1 a2 a3 a4 a5 a6 a7 a8 a9 a10 a11 a12 (.inl t38)) ∧ U) ∧ (cm_floats.P r = true ∧ (U) ∧ (.v (.one (.sc (.iface 64 (.agg #[.int .i64 t38.1, .int .u32 t38.2])))) : Tm) = cm_floats.R r ∧ ([(cm_floats.c2 a0 a1 a2 a3 a4 a5 a6 a7 a8 a9), .ex false [.c (.os 2 0 0 1 (List.length a12) none), .c (.sc (.int .i64 a10)), .c (.sc (.int .i64 a11))] 33, .fix false (.int .u8) a12 5] : List Box) = cm_floats.B a0 a1 a2 a3 a4 a5 a6 a7 a8 a9 a10 a11 a12 r))) ∧ U) ∨ (∃ t39 : Int, (∃ t42 : Int × (Option Int), (((U) ∧ (Fun cfg 35 [.one (.ptr 0 ⟨0, 0, 0, 0⟩), .one (.sc (.int .i64 a5))] [(cm_floats.c2 a0 a1 a2 a3 a4 a5 a6 a7 a8 a9), .ex false [.c (.os 2 0 0 1 (List.length a12) none), .c (.sc (.int .i64 a10)), .c (.sc (.int .i64 a11))] 33, .fix false (.int .u8) a12 5] (cm_float.R (.inr t34)) (cm_float.B a5 a0 a1 a2 a3 a4 a5 a6 a7 a8 a9 a10 a11 a12 (.inr t34)) ∧ U) ∧ (0 ≤ t34 ∧ t34 < ((4 : Nat) : Int)) ∧ ((Int.toNat t34) < 4) ∧ (Fun cfg 35 [.one (.ptr 0 ⟨0, 0, 0, 0⟩), .one (.sc (.int .i64 a6))] [(cm_floats.c2 a0 a1 a2 a3 a4 a5 a6 a7 a8 a9), .ex false [.c (.os 2 0 0 1 (List.length a12) none), .c (.sc (.int .i64 a10)), .c (.sc (.int .i64 a11))] 33, .fix false (.int .u8) a12 5] (cm_float.R (.inr t39)) (cm_float.B a6 a0 a1 a2 a3 a4 a5 a6 a7 a8 a9 a10 a11 a12 (.inr t39)) ∧ U) ∧ (0 ≤ t39 ∧ t39 < ((4 : Nat) : Int)) ∧ ((Int.toNat t39) < 4) ∧ (Fun cfg 41 [.one (.sc (.int .i64 a4)), .one (.sc (.int .u64 (List.getD a3 (Int.toNat t34) (0 : Int)))), .one (.sc (.int .u64 (List.getD a3 (Int.toNat t39) (0 : Int))))] [] (alu_Float.R t42) [] ∧ U) ∧ (⟨([P0, A, vi .i64 a5, vi .i64 a6, vi .u64 t42.1, .v (.one (.err t42.2)), P0, P0, pt 23 0 0, pt 24 0 0, vi .i64 a5, P0, P0, pt 23 0 0, pt 25 0 0, vi .i64 a6, P0, P0, pt 23 0 0, pt 23 0 0, vi .i64 a4, .tup [.one (.sc (.int .u64 t42.1)), .one (.err t42.2)], P0, P0, pt 23 0 0, pt 23 0 0, vi .i64 a4, P0, P0, vi .i64 a5, vi .i64 t34, P0, pt 1 0 0, pt 19 0 0, pt 19 (Int.toNat t34) 1, vi .u64 (List.getD a3 (Int.toNat t34) (0 : Int)), P0, P0, vi .i64 a6, vi .i64 t39, P0, pt 1 0 0, pt 19 0 0, pt 19 (Int.toNat t39) 1, vi .u64 (List.getD a3 (Int.toNat t39) (0 : Int)), .tup [.one (.sc (.int .u64 t42.1)), .one (.err t42.2)], vi .u64 t42.1, .v (.one (.err t42.2))] ++ (rA 14 ([vb (a4 == (39 : Int)), vb (a4 == (39 : Int))] ++ (rA 16 ([vb (a4 == (40 : Int)), vb (a4 == (40 : Int))] ++ (rA 16 ([vb (a4 == (38 : Int)), vb (a4 == (38 : Int))] ++ (rA 28 [])))))))), [(cm_floats.c2 a0 a1 a2 a3 a4 a5 a6 a7 a8 a9), .ex false [.c (.os 2 0 0 1 (List.length a12) none), .c (.sc (.int .i64 a10)), .c (.sc (.int .i64 a11))] 33, .fix false (.int .u8) a12 5], 3⟩ : St) = ⟨([P0, A, vi .i64 a5, vi .i64 a6, vi .u64 t42.1, .v (.one (.err t42.2)), P0, P0, pt 23 0 0, pt 24 0 0, vi .i64 a5, P0, P0, pt 23 0 0, pt 25 0 0, vi .i64 a6, P0, P0, pt 23 0 0, pt 23 0 0, vi .i64 a4, .tup [.one (.sc (.int .u64 t42.1)), .one (.err t42.2)], P0, P0, pt 23 0 0, pt 23 0 0, vi .i64 a4, P0, P0, vi .i64 a5, vi .i64 t34, P0, pt 1 0 0, pt 19 0 0, pt 19 (Int.toNat t34) 1, vi .u64 (List.getD a3 (Int.toNat t34) (0 : Int)), P0, P0, vi .i64 a6, vi .i64 t39, P0, pt 1 0 0, pt 19 0 0, pt 19 (Int.toNat t39) 1, vi .u64 (List.getD a3 (Int.toNat t39) (0 : Int)), .tup [.one (.sc (.int .u64 t42.1)), .one (.err t42.2)], vi .u64 t42.1, .v (.one (.err t42.2))] ++ (rA 14 ([vb (a4 == (39 : Int)), vb (a4 == (39 : Int))] ++ (rA 16 ([vb (a4 == (40 : Int)), vb (a4 == (40 : Int))] ++ (rA 16 ([vb (a4 == (38 : Int)), vb (a4 == (38 : Int))] ++ (rA 28 [])))))))), [(cm_floats.c2 a0 a1 a2 a3 a4 a5 a6 a7 a8 a9), .ex false [.c (.os 2 0 0 1 (List.length a12) none), .c (.sc (.int .i64 a10)), .c (.sc (.int .i64 a11))] 33, .fix false (.int .u8) a12 5], 3⟩) ∧ (((U) ∧ (Fun cfg 35 [.one (.ptr 0 ⟨0, 0, 0, 0⟩), .one (.sc (.int .i64 a5))] [(cm_floats.c2 a0 a1 a2 a3 a4 a5 a6 a7 a8 a9), .ex false [.c (.os 2 0 0 1 (List.length a12) none), .c (.sc (.int .i64 a10)), .c (.sc (.int .i64 a11))] 33, .fix false (.int .u8) a12 5] (cm_float.R (.inr t34)) (cm_float.B a5 a0 a1 a2 a3 a4 a5 a6 a7 a8 a9 a10 a11 a12 (.inr t34)) ∧ U) ∧ (0 ≤ t34 ∧ t34 < ((4 : Nat) : Int)) ∧ (Fun cfg 35 [.one (.ptr 0 ⟨0, 0, 0, 0⟩), .one (.sc (.int .i64 a6))] [(cm_floats.c2 a0 a1 a2 a3 a4 a5 a6 a7 a8 a9), .ex false [.c (.os 2 0 0 1 (List.length a12) none), .c (.sc (.int .i64 a10)), .c (.sc (.int .i64 a11))] 33, .fix false (.int .u8) a12 5] (cm_float.R (.inr t39)) (cm_float.B a6 a0 a1 a2 a3 a4 a5 a6 a7 a8 a9 a10 a11 a12 (.inr t39)) ∧ U) ∧ (0 ≤ t39 ∧ t39 < ((4 : Nat) : Int)) ∧ ((Int.toNat t34) < 4) ∧ ((Int.toNat t39) < 4) ∧ (Fun cfg 41 [.one (.sc (.int .i64 a4)), .one (.sc (.int .u64 (List.getD a3 (Int.toNat t34) (0 : Int)))), .one (.sc (.int .u64 (List.getD a3 (Int.toNat t39) (0 : Int))))] [] (alu_Float.R t42) [] ∧ U) ∧ U ∧ (⟨([P0, A, vi .i64 a5, vi .i64 a6, vi .u64 t42.1, .v (.one (.err t42.2)), P0, P0, pt 23 0 0, pt 24 0 0, vi .i64 a5, P0, P0, pt 23 0 0, pt 25 0 0, vi .i64 a6, P0, P0, pt 23 0 0, pt 23 0 0, vi .i64 a4, .tup [.one (.sc (.int .u64 t42.1)), .one (.err t42.2)], P0, P0, pt 23 0 0, pt 23 0 0, vi .i64 a4, P0, P0, vi .i64 a5, vi .i64 t34, P0, pt 1 0 0, pt 19 0 0, pt 19 (Int.toNat t34) 1, vi .u64 (List.getD a3 (Int.toNat t34) (0 : Int)), P0, P0, vi .i64 a6, vi .i64 t39, P0, pt 1 0 0, pt 19 0 0, pt 19 (Int.toNat t39) 1, vi .u64 (List.getD a3 (Int.toNat t39) (0 : Int)), .tup [.one (.sc (.int .u64 t42.1)), .one (.err t42.2)], vi .u64 t42.1, .v (.one (.err t42.2))] ++ (rA 14 ([vb (a4 == (39 : Int)), vb (a4 == (39 : Int))] ++ (rA 16 ([vb (a4 == (40 : Int)), vb (a4 == (40 : Int))] ++ (rA 16 ([vb (a4 == (38 : Int)), vb (a4 == (38 : Int))] ++ (rA 28 [])))))))), [(cm_floats.c2 a0 a1 a2 a3 a4 a5 a6 a7 a8 a9), .ex false [.c (.os 2 0 0 1 (List.length a12) none), .c (.sc (.int .i64 a10)), .c (.sc (.int .i64 a11))] 33, .fix false (.int .u8) a12 5], 3⟩ : St) = ⟨([P0, A, vi .i64 a5, vi .i64 a6, vi .u64 t42.1, .v (.one (.err t42.2)), P0, P0, pt 23 0 0, pt 24 0 0, vi .i64 a5, P0, P0, pt 23 0 0, pt 25 0 0, vi .i64 a6, P0, P0, pt 23 0 0, pt 23 0 0, vi .i64 a4, .tup [.one (.sc (.int .u64 t42.1)), .one (.err t42.2)], P0, P0, pt 23 0 0, pt 23 0 0, vi .i64 a4, P0, P0, vi .i64 a5, vi .i64 t34, P0, pt 1 0 0, pt 19 0 0, pt 19 (Int.toNat t34) 1, vi .u64 (List.getD a3 (Int.toNat t34) (0 : Int)), P0, P0, vi .i64 a6, vi .i64 t39, P0, pt 1 0 0, pt 19 0 0, pt 19 (Int.toNat t39) 1, vi .u64 (List.getD a3 (Int.toNat t39) (0 : Int)), .tup [.one (.sc (.int .u64 t42.1)), .one (.err t42.2)], vi .u64 t42.1, .v (.one (.err t42.2))] ++ (rA 14 ([vb (a4 == (39 : Int)), vb (a4 == (39 : Int))] ++ (rA 16 ([vb (a4 == (40 : Int)), vb (a4 == (40 : Int))] ++ (rA 16 ([vb (a4 == (38 : Int)), vb (a4 == (38 : Int))] ++ (rA 28 [])))))))), [(cm_floats.c2 a0 a1 a2 a3 a4 a5 a6 a7 a8 a9), .ex false [.c (.os 2 0 0 1 (List.length a12) none), .c (.sc (.int .i64 a10)), .c (.sc (.int .i64 a11))] 33, .fix false (.int .u8) a12 5], 3⟩) ∧ ((Fun cfg 35 [.one (.ptr 0 ⟨0, 0, 0, 0⟩), .one (.sc (.int .i64 a5))] [(cm_floats.c2 a0 a1 a2 a3 a4 a5 a6 a7 a8 a9), .ex false [.c (.os 2 0 0 1 (List.length a12) none), .c (.sc (.int .i64 a10)), .c (.sc (.int .i64 a11))] 33, .fix false (.int .u8) a12 5] (cm_float.R (.inr t34)) (cm_float.B a5 a0 a1 a2 a3 a4 a5 a6 a7 a8 a9 a10 a11 a12 (.inr t34)) ∧ U) ∧ (0 ≤ t34 ∧ t34 < ((4 : Nat) : Int)) ∧ (U) ∧ ((Int.toNat t34) < 4) ∧ (Fun cfg 35 [.one (.ptr 0 ⟨0, 0, 0, 0⟩), .one (.sc (.int .i64 a6))] [(cm_floats.c2 a0 a1 a2 a3 a4 a5 a6 a7 a8 a9), .ex false [.c (.os 2 0 0 1 (List.length a12) none), .c (.sc (.int .i64 a10)), .c (.sc (.int .i64 a11))] 33, .fix false (.int .u8) a12 5] (cm_float.R (.inr t39)) (cm_float.B a6 a0 a1 a2 a3 a4 a5 a6 a7 a8 a9 a10 a11 a12 (.inr t39)) ∧ U) ∧ (0 ≤ t39 ∧ t39 < ((4 : Nat) : Int)) ∧ ((Int.toNat t39) < 4) ∧ (Fun cfg 41 [.one (.sc (.int .i64 a4)), .one (.sc (.int .u64 (List.getD a3 (Int.toNat t34) (0 : Int)))), .one (.sc (.int .u64 (List.getD a3 (Int.toNat t39) (0 : Int))))] [] (alu_Float.R t42) [] ∧ U) ∧ U ∧ (⟨([P0, A, vi .i64 a5, vi .i64 a6, vi .u64 t42.1, .v (.one (.err t42.2)), P0, P0, pt 23 0 0, pt 24 0 0, vi .i64 a5, P0, P0, pt 23 0 0, pt 25 0 0, vi .i64 a6, P0, P0, pt 23 0 0, pt 23 0 0, vi .i64 a4, .tup [.one (.sc (.int .u64 t42.1)), .one (.err t42.2)], P0, P0, pt 23 0 0, pt 23 0 0, vi .i64 a4, P0, P0, vi .i64 a5, vi .i64 t34, P0, pt 1 0 0, pt 19 0 0, pt 19 (Int.toNat t34) 1, vi .u64 (List.getD a3 (Int.toNat t34) (0 : Int)), P0, P0, vi .i64 a6, vi .i64 t39, P0, pt 1 0 0, pt 19 0 0, pt 19 (Int.toNat t39) 1, vi .u64 (List.getD a3 (Int.toNat t39) (0 : Int)), .tup [.one (.sc (.int .u64 t42.1)), .one (.err t42.2)], vi .u64 t42.1, .v (.one (.err t42.2))] ++ (rA 14 ([vb (a4 == (39 : Int)), vb (a4 == (39 : Int))] ++ (rA 16 ([vb (a4 == (40 : Int)), vb (a4 == (40 : Int))] ++ (rA 16 ([vb (a4 == (38 : Int)), vb (a4 == (38 : Int))] ++ (rA 28 [])))))))), [(cm_floats.c2 a0 a1 a2 a3 a4 a5 a6 a7 a8 a9), .ex false [.c (.os 2 0 0 1 (List.length a12) none), .c (.sc (.int .i64 a10)), .c (.sc (.int .i64 a11))] 33, .fix false (.int .u8) a12 5], 3⟩ : St) = ⟨([P0, A, vi .i64 a5, vi .i64 a6, vi .u64 t42.1, .v (.one (.err t42.2)), P0, P0, pt 23 0 0, pt 24 0 0, vi .i64 a5, P0, P0, pt 23 0 0, pt 25 0 0, vi .i64 a6, P0, P0, pt 23 0 0, pt 23 0 0, vi .i64 a4, .tup [.one (.sc (.int .u64 t42.1)), .one (.err t42.2)], P0, P0, pt 23 0 0, pt 23 0 0, vi .i64 a4, P0, P0, vi .i64 a5, vi .i64 t34, P0, pt 1 0 0, pt 19 0 0, pt 19 (Int.toNat t34) 1, vi .u64 (List.getD a3 (Int.toNat t34) (0 : Int)), P0, P0, vi .i64 a6, vi .i64 t39, P0, pt 1 0 0, pt 19 0 0, pt 19 (Int.toNat t39) 1, vi .u64 (List.getD a3 (Int.toNat t39) (0 : Int)), .tup [.one (.sc (.int .u64 t42.1)), .one (.err t42.2)], vi .u64 t42.1, .v (.one (.err t42.2))] ++ (rA 14 ([vb (a4 == (39 : Int)), vb (a4 == (39 : Int))] ++ (rA 16 ([vb (a4 == (40 : Int)), vb (a4 == (40 : Int))] ++ (rA 16 ([vb (a4 == (38 : Int)), vb (a4 == (38 : Int))] ++ (rA 28 [])))))))), [(cm_floats.c2 a0 a1 a2 a3 a4 a5 a6 a7 a8 a9), .ex false [.c (.os 2 0 0 1 (List.length a12) none), .c (.sc (.int .i64 a10)), .c (.sc (.int .i64 a11))] 33, .fix false (.int .u8) a12 5], 3⟩) ∧ ((Fun cfg 35 [.one (.ptr 0 ⟨0, 0, 0, 0⟩), .one (.sc (.int .i64 a5))] [(cm_floats.c2 a0 a1 a2 a3 a4 a5 a6 a7 a8 a9), .ex false [.c (.os 2 0 0 1 (List.length a12) none), .c (.sc (.int .i64 a10)), .c (.sc (.int .i64 a11))] 33, .fix false (.int .u8) a12 5] (cm_float.R (.inr t34)) (cm_float.B a5 a0 a1 a2 a3 a4 a5 a6 a7 a8 a9 a10 a11 a12 (.inr t34)) ∧ U) ∧ (0 ≤ t34 ∧ t34 < ((4 : Nat) : Int)) ∧ (U) ∧ (Fun cfg 35 [.one (.ptr 0 ⟨0, 0, 0, 0⟩), .one (.sc (.int .i64 a6))] [(cm_floats.c2 a0 a1 a2 a3 a4 a5 a6 a7 a8 a9), .ex false [.c (.os 2 0 0 1 (List.length a12) none), .c (.sc (.int .i64 a10)), .c (.sc (.int .i64 a11))] 33, .fix false (.int .u8) a12 5] (cm_float.R (.inr t39)) (cm_float.B a6 a0 a1 a2 a3 a4 a5 a6 a7 a8 a9 a10 a11 a12 (.inr t39)) ∧ U) ∧ (0 ≤ t39 ∧ t39 < ((4 : Nat) : Int)) ∧ ((Int.toNat t34) < 4) ∧ ((Int.toNat t39) < 4) ∧ (Fun cfg 41 [.one (.sc (.int .i64 a4)), .one (.sc (.int .u64 (List.getD a3 (Int.toNat t34) (0 : Int)))), .one (.sc (.int .u64 (List.getD a3 (Int.toNat t39) (0 : Int))))] [] (alu_Float.R t42) [] ∧ U) ∧ U ∧ (⟨([P0, A, vi .i64 a5, vi .i64 a6, vi .u64 t42.1, .v (.one (.err t42.2)), P0, P0, pt 23 0 0, pt 24 0 0, vi .i64 a5, P0, P0, pt 23 0 0, pt 25 0 0, vi .i64 a6, P0, P0, pt 23 0 0, pt 23 0 0, vi .i64 a4, .tup [.one (.sc (.int .u64 t42.1)), .one (.err t42.2)], P0, P0, pt 23 0 0, pt 23 0 0, vi .i64 a4, P0, P0, vi .i64 a5, vi .i64 t34, P0, pt 1 0 0, pt 19 0 0, pt 19 (Int.toNat t34) 1, vi .u64 (List.getD a3 (Int.toNat t34) (0 : Int)), P0, P0, vi .i64 a6, vi .i64 t39, P0, pt 1 0 0, pt 19 0 0, pt 19 (Int.toNat t39) 1, vi .u64 (List.getD a3 (Int.toNat t39) (0 : Int)), .tup [.one (.sc (.int .u64 t42.1)), .one (.err t42.2)], vi .u64 t42.1, .v (.one (.err t42.2))] ++ (rA 14 ([vb (a4 == (39 : Int)), vb (a4 == (39 : Int))] ++ (rA 16 ([vb (a4 == (40 : Int)), vb (a4 == (40 : Int))] ++ (rA 16 ([vb (a4 == (38 : Int)), vb (a4 == (38 : Int))] ++ (rA 28 [])))))))), [(cm_floats.c2 a0 a1 a2 a3 a4 a5 a6 a7 a8 a9), .ex false [.c (.os 2 0 0 1 (List.length a12) none), .c (.sc (.int .i64 a10)), .c (.sc (.int .i64 a11))] 33, .fix false (.int .u8) a12 5], 3⟩ : St) = ⟨([P0, A, vi .i64 a5, vi .i64 a6, vi .u64 t42.1, .v (.one (.err t42.2)), P0, P0, pt 23 0 0, pt 24 0 0, vi .i64 a5, P0, P0, pt 23 0 0, pt 25 0 0, vi .i64 a6, P0, P0, pt 23 0 0, pt 23 0 0, vi .i64 a4, .tup [.one (.sc (.int .u64 t42.1)), .one (.err t42.2)], P0, P0, pt 23 0 0, pt 23 0 0, vi .i64 a4, P0, P0, vi .i64 a5, vi .i64 t34, P0, pt 1 0 0, pt 19 0 0, pt 19 (Int.toNat t34) 1, vi .u64 (List.getD a3 (Int.toNat t34) (0 : Int)), P0, P0, vi .i64 a6, vi .i64 t39, P0, pt 1 0 0, pt 19 0 0, pt 19 (Int.toNat t39) 1, vi .u64 (List.getD a3 (Int.toNat t39) (0 : Int)), .tup [.one (.sc (.int .u64 t42.1)), .one (.err t42.2)], vi .u64 t42.1, .v (.one (.err t42.2))] ++ (rA 14 ([vb (a4 == (39 : Int)), vb (a4 == (39 : Int))] ++ (rA 16 ([vb (a4 == (40 : Int)), vb (a4 == (40 : Int))] ++ (rA 16 ([vb (a4 == (38 : Int)), vb (a4 == (38 : Int))] ++ (rA 28 [])))))))), [(cm_floats.c2 a0 a1 a2 a3 a4 a5 a6 a7 a8 a9), .ex false [.c (.os 2 0 0 1 (List.length a12) none), .c (.sc (.int .i64 a10)), .c (.sc (.int .i64 a11))] 33, .fix false (.int .u8) a12 5], 3⟩) ∧ ((Fun cfg 35 [.one (.ptr 0 ⟨0, 0, 0, 0⟩), .one (.sc (.int .i64 a5))] [(cm_floats.c2 a0 a1 a2 a3 a4 a5 a6 a7 a8 a9), .ex false [.c (.os 2 0 0 1 (List.length a12) none), .c (.sc (.int .i64 a10)), .c (.sc (.int .i64 a11))] 33, .fix false (.int .u8) a12 5] (cm_float.R (.inr t34)) (cm_float.B a5 a0 a1 a2 a3 a4 a5 a6 a7 a8 a9 a10 a11 a12 (.inr t34)) ∧ U) ∧ (0 ≤ t34 ∧ t34 < ((4 : Nat) : Int)) ∧ ((Int.toNat t34) < 4) ∧ (U) ∧ (Fun cfg 35 [.one (.ptr 0 ⟨0, 0, 0, 0⟩), .one (.sc (.int .i64 a6))] [(cm_floats.c2 a0 a1 a2 a3 a4 a5 a6 a7 a8 a9), .ex false [.c (.os 2 0 0 1 (List.length a12) none), .c (.sc (.int .i64 a10)), .c (.sc (.int .i64 a11))] 33, .fix false (.int .u8) a12 5] (cm_float.R (.inr t39)) (cm_float.B a6 a0 a1 a2 a3 a4 a5 a6 a7 a8 a9 a10 a11 a12 (.inr t39)) ∧ U) ∧ (0 ≤ t39 ∧ t39 < ((4 : Nat) : Int)) ∧ ((Int.toNat t39) < 4) ∧ (Fun cfg 41 [.one (.sc (.int .i64 a4)), .one (.sc (.int .u64 (List.getD a3 (Int.toNat t34) (0 : Int)))), .one (.sc (.int .u64 (List.getD a3 (Int.toNat t39) (0 : Int))))] [] (alu_Float.R t42) [] ∧ U) ∧ U ∧ (⟨([P0, A, vi .i64 a5, vi .i64 a6, vi .u64 t42.1, .v (.one (.err t42.2)), P0, P0, pt 23 0 0, pt 24 0 0, vi .i64 a5, P0, P0, pt 23 0 0, pt 25 0 0, vi .i64 a6, P0, P0, pt 23 0 0, pt 23 0 0, vi .i64 a4, .tup [.one (.sc (.int .u64 t42.1)), .one (.err t42.2)], P0, P0, pt 23 0 0, pt 23 0 0, vi .i64 a4, P0, P0, vi .i64 a5, vi .i64 t34, P0, pt 1 0 0, pt 19 0 0, pt 19 (Int.toNat t34) 1, vi .u64 (List.getD a3 (Int.toNat t34) (0 : Int)), P0, P0, vi .i64 a6, vi .i64 t39, P0, pt 1 0 0, pt 19 0 0, pt 19 (Int.toNat t39) 1, vi .u64 (List.getD a3 (Int.toNat t39) (0 : Int)), .tup [.one (.sc (.int .u64 t42.1)), .one (.err t42.2)], vi .u64 t42.1, .v (.one (.err t42.2))] ++ (rA 14 ([vb (a4 == (39 : Int)), vb (a4 == (39 : Int))] ++ (rA 16 ([vb (a4 == (40 : Int)), vb (a4 == (40 : Int))] ++ (rA 16 ([vb (a4 == (38 : Int)), vb (a4 == (38 : Int))] ++ (rA 28 [])))))))), [(cm_floats.c2 a0 a1 a2 a3 a4 a5 a6 a7 a8 a9), .ex false [.c (.os 2 0 0 1 (List.length a12) none), .c (.sc (.int .i64 a10)), .c (.sc (.int .i64 a11))] 33, .fix false (.int .u8) a12 5], 3⟩ : St) = ⟨([P0, A, vi .i64 a5, vi .i64 a6, vi .u64 t42.1, .v (.one (.err t42.2)), P0, P0, pt 23 0 0, pt 24 0 0, vi .i64 a5, P0, P0, pt 23 0 0, pt 25 0 0, vi .i64 a6, P0, P0, pt 23 0 0, pt 23 0 0, vi .i64 a4, .tup [.one (.sc (.int .u64 t42.1)), .one (.err t42.2)], P0, P0, pt 23 0 0, pt 23 0 0, vi .i64 a4, P0, P0, vi .i64 a5, vi .i64 t34, P0, pt 1 0 0, pt 19 0 0, pt 19 (Int.toNat t34) 1, vi .u64 (List.getD a3 (Int.toNat t34) (0 : Int)), P0, P0, vi .i64 a6, vi .i64 t39, P0, pt 1 0 0, pt 19 0 0, pt 19 (Int.toNat t39) 1, vi .u64 (List.getD a3 (Int.toNat t39) (0 : Int)), .tup [.one (.sc (.int .u64 t42.1)), .one (.err t42.2)], vi .u64 t42.1, .v (.one (.err t42.2))] ++ (rA 14 ([vb (a4 == (39 : Int)), vb (a4 == (39 : Int))] ++ (rA 16 ([vb (a4 == (40 : Int)), vb (a4 == (40 : Int))] ++ (rA 16 ([vb (a4 == (38 : Int)), vb (a4 == (38 : Int))] ++ (rA 28 [])))))))), [(cm_floats.c2 a0 a1 a2 a3 a4 a5 a6 a7 a8 a9), .ex false [.c (.os 2 0 0 1 (List.length a12) none), .c (.sc (.int .i64 a10)), .c (.sc (.int .i64 a11))] 33, .fix false (.int .u8) a12 5], 3⟩) ∧ ((Fun cfg 35 [.one (.ptr 0 ⟨0, 0, 0, 0⟩), .one (.sc (.int .i64 a5))] [(cm_floats.c2 a0 a1 a2 a3 a4 a5 a6 a7 a8 a9), .ex false [.c (.os 2 0 0 1 (List.length a12) none), .c (.sc (.int .i64 a10)), .c (.sc (.int .i64 a11))] 33, .fix false (.int .u8) a12 5] (cm_float.R (.inr t34)) (cm_float.B a5 a0 a1 a2 a3 a4 a5 a6 a7 a8 a9 a10 a11 a12 (.inr t34)) ∧ U) ∧ (0 ≤ t34 ∧ t34 < ((4 : Nat) : Int)) ∧ ((Int.toNat t34) < 4) ∧ (Fun cfg 35 [.one (.ptr 0 ⟨0, 0, 0, 0⟩), .one (.sc (.int .i64 a6))] [(cm_floats.c2 a0 a1 a2 a3 a4 a5 a6 a7 a8 a9), .ex false [.c (.os 2 0 0 1 (List.length a12) none), .c (.sc (.int .i64 a10)), .c (.sc (.int .i64 a11))] 33, .fix false (.int .u8) a12 5] (cm_float.R (.inr t39)) (cm_float.B a6 a0 a1 a2 a3 a4 a5 a6 a7 a8 a9 a10 a11 a12 (.inr t39)) ∧ U) ∧ (0 ≤ t39 ∧ t39 < ((4 : Nat) : Int)) ∧ (U) ∧ ((Int.toNat t39) < 4) ∧ (Fun cfg 41 [.one (.sc (.int .i64 a4)), .one (.sc (.int .u64 (List.getD a3 (Int.toNat t34) (0 : Int)))), .one (.sc (.int .u64 (List.getD a3 (Int.toNat t39) (0 : Int))))] [] (alu_Float.R t42) [] ∧ U) ∧ U ∧ (⟨([P0, A, vi .i64 a5, vi .i64 a6, vi .u64 t42.1, .v (.one (.err t42.2)), P0, P0, pt 23 0 0, pt 24 0 0, vi .i64 a5, P0, P0, pt 23 0 0, pt 25 0 0, vi .i64 a6, P0, P0, pt 23 0 0, pt 23 0 0, vi .i64 a4, .tup [.one (.sc (.int .u64 t42.1)), .one (.err t42.2)], P0, P0, pt 23 0 0, pt 23 0 0, vi .i64 a4, P0, P0, vi .i64 a5, vi .i64 t34, P0, pt 1 0 0, pt 19 0 0, pt 19 (Int.toNat t34) 1, vi .u64 (List.getD a3 (Int.toNat t34) (0 : Int)), P0, P0, vi .i64 a6, vi .i64 t39, P0, pt 1 0 0, pt 19 0 0, pt 19 (Int.toNat t39) 1, vi .u64 (List.getD a3 (Int.toNat t39) (0 : Int)), .tup [.one (.sc (.int .u64 t42.1)), .one (.err t42.2)], vi .u64 t42.1, .v (.one (.err t42.2))] ++ (rA 14 ([vb (a4 == (39 : Int)), vb (a4 == (39 : Int))] ++ (rA 16 ([vb (a4 == (40 : Int)), vb (a4 == (40 : Int))] ++ (rA 16 ([vb (a4 == (38 : Int)), vb (a4 == (38 : Int))] ++ (rA 28 [])))))))), [(cm_floats.c2 a0 a1 a2 a3 a4 a5 a6 a7 a8 a9), .ex false [.c (.os 2 0 0 1 (List.length a12) none), .c (.sc (.int .i64 a10)), .c (.sc (.int .i64 a11))] 33, .fix false (.int .u8) a12 5], 3⟩ : St) = ⟨([P0, A, vi .i64 a5, vi .i64 a6, vi .u64 t42.1, .v (.one (.err t42.2)), P0, P0, pt 23 0 0, pt 24 0 0, vi .i64 a5, P0, P0, pt 23 0 0, pt 25 0 0, vi .i64 a6, P0, P0, pt 23 0 0, pt 23 0 0, vi .i64 a4, .tup [.one (.sc (.int .u64 t42.1)), .one (.err t42.2)], P0, P0, pt 23 0 0, pt 23 0 0, vi .i64 a4, P0, P0, vi .i64 a5, vi .i64 t34, P0, pt 1 0 0, pt 19 0 0, pt 19 (Int.toNat t34) 1, vi .u64 (List.getD a3 (Int.toNat t34) (0 : Int)), P0, P0, vi .i64 a6, vi .i64 t39, P0, pt 1 0 0, pt 19 0 0, pt 19 (Int.toNat t39) 1, vi .u64 (List.getD a3 (Int.toNat t39) (0 : Int)), .tup [.one (.sc (.int .u64 t42.1)), .one (.err t42.2)], vi .u64 t42.1, .v (.one (.err t42.2))] ++ (rA 14 ([vb (a4 == (39 : Int)), vb (a4 == (39 : Int))] ++ (rA 16 ([vb (a4 == (40 : Int)), vb (a4 == (40 : Int))] ++ (rA 16 ([vb (a4 == (38 : Int)), vb (a4 == (38 : Int))] ++ (rA 28 [])))))))), [(cm_floats.c2 a0 a1 a2 a3 a4 a5 a6 a7 a8 a9), .ex false [.c (.os 2 0 0 1 (List.length a12) none), .c (.sc (.int .i64 a10)), .c (.sc (.int .i64 a11))] 33, .fix false (.int .u8) a12 5], 3⟩) ∧ ((Fun cfg 35 [.one (.ptr 0 ⟨0, 0, 0, 0⟩), .one (.sc (.int .i64 a5))] [(cm_floats.c2 a0 a1 a2 a3 a4 a5 a6 a7 a8 a9), .ex false [.c (.os 2 0 0 1 (List.length a12) none), .c (.sc (.int .i64 a10)), .c (.sc (.int .i64 a11))] 33, .fix false (.int .u8) a12 5] (cm_float.R (.inr t34)) (cm_float.B a5 a0 a1 a2 a3 a4 a5 a6 a7 a8 a9 a10 a11 a12 (.inr t34)) ∧ U) ∧ (0 ≤ t34 ∧ t34 < ((4 : Nat) : Int)) ∧ (Fun cfg 35 [.one (.ptr 0 ⟨0, 0, 0, 0⟩), .one (.sc (.int .i64 a6))] [(cm_floats.c2 a0 a1 a2 a3 a4 a5 a6 a7 a8 a9), .ex false [.c (.os 2 0 0 1 (List.length a12) none), .c (.sc (.int .i64 a10)), .c (.sc (.int .i64 a11))] 33, .fix false (.int .u8) a12 5] (cm_float.R (.inr t39)) (cm_float.B a6 a0 a1 a2 a3 a4 a5 a6 a7 a8 a9 a10 a11 a12 (.inr t39)) ∧ U) ∧ (0 ≤ t39 ∧ t39 < ((4 : Nat) : Int)) ∧ (U) ∧ ((Int.toNat t34) < 4) ∧ ((Int.toNat t39) < 4) ∧ (Fun cfg 41 [.one (.sc (.int .i64 a4)), .one (.sc (.int .u64 (List.getD a3 (Int.toNat t34) (0 : Int)))), .one (.sc (.int .u64 (List.getD a3 (Int.toNat t39) (0 : Int))))] [] (alu_Float.R t42) [] ∧ U) ∧ U ∧ (⟨([P0, A, vi .i64 a5, vi .i64 a6, vi .u64 t42.1, .v (.one (.err t42.2)), P0, P0, pt 23 0 0, pt 24 0 0, vi .i64 a5, P0, P0, pt 23 0 0, pt 25 0 0, vi .i64 a6, P0, P0, pt 23 0 0, pt 23 0 0, vi .i64 a4, .tup [.one (.sc (.int .u64 t42.1)), .one (.err t42.2)], P0, P0, pt 23 0 0, pt 23 0 0, vi .i64 a4, P0, P0, vi .i64 a5, vi .i64 t34, P0, pt 1 0 0, pt 19 0 0, pt 19 (Int.toNat t34) 1, vi .u64 (List.getD a3 (Int.toNat t34) (0 : Int)), P0, P0, vi .i64 a6, vi .i64 t39, P0, pt 1 0 0, pt 19 0 0, pt 19 (Int.toNat t39) 1, vi .u64 (List.getD a3 (Int.toNat t39) (0 : Int)), .tup [.one (.sc (.int .u64 t42.1)), .one (.err t42.2)], vi .u64 t42.1, .v (.one (.err t42.2))] ++ (rA 14 ([vb (a4 == (39 : Int)), vb (a4 == (39 : Int))] ++ (rA 16 ([vb (a4 == (40 : Int)), vb (a4 == (40 : Int))] ++ (rA 16 ([vb (a4 == (38 : Int)), vb (a4 == (38 : Int))] ++ (rA 28 [])))))))), [(cm_floats.c2 a0 a1 a2 a3 a4 a5 a6 a7 a8 a9), .ex false [.c (.os 2 0 0 1 (List.length a12) none), .c (.sc (.int .i64 a10)), .c (.sc (.int .i64 a11))] 33, .fix false (.int .u8) a12 5], 3⟩ : St) = ⟨([P0, A, vi .i64 a5, vi .i64 a6, vi .u64 t42.1, .v (.one (.err t42.2)), P0, P0, pt 23 0 0, pt 24 0 0, vi .i64 a5, P0, P0, pt 23 0 0, pt 25 0 0, vi .i64 a6, P0, P0, pt 23 0 0, pt 23 0 0, vi .i64 a4, .tup [.one (.sc (.int .u64 t42.1)), .one (.err t42.2)], P0, P0, pt 23 0 0, pt 23 0 0, vi .i64 a4, P0, P0, vi .i64 a5, vi .i64 t34, P0, pt 1 0 0, pt 19 0 0, pt 19 (Int.toNat t34) 1, vi .u64 (List.getD a3 (Int.toNat t34) (0 : Int)), P0, P0, vi .i64 a6, vi .i64 t39, P0, pt 1 0 0, pt 19 0 0, pt 19 (Int.toNat t39) 1, vi .u64 (List.getD a3 (Int.toNat t39) (0 : Int)), .tup [.one (.sc (.int .u64 t42.1)), .one (.err t42.2)], vi .u64 t42.1, .v (.one (.err t42.2))] ++ (rA 14 ([vb (a4 == (39 : Int)), vb (a4 == (39 : Int))] ++ (rA 16 ([vb (a4 == (40 : Int)), vb (a4 == (40 : Int))] ++ (rA 16 ([vb (a4 == (38 : Int)), vb (a4 == (38 : Int))] ++ (rA 28 [])))))))), [(cm_floats.c2 a0 a1 a2 a3 a4 a5 a6 a7 a8 a9), .ex false [.c (.os 2 0 0 1 (List.length a12) none), .c (.sc (.int .i64 a10)), .c (.sc (.int .i64 a11))] 33, .fix false (.int .u8) a12 5], 3⟩) ∧ ((Fun cfg 35 [.one (.ptr 0 ⟨0, 0, 0, 0⟩), .one (.sc (.int .i64 a5))] [(cm_floats.c2 a0 a1 a2 a3 a4 a5 a6 a7 a8 a9), .ex false [.c (.os 2 0 0 1 (List.length a12) none), .c (.sc (.int .i64 a10)), .c (.sc (.int .i64 a11))] 33, .fix false (.int .u8) a12 5] (cm_float.R (.inr t34)) (cm_float.B a5 a0 a1 a2 a3 a4 a5 a6 a7 a8 a9 a10 a11 a12 (.inr t34)) ∧ U) ∧ (0 ≤ t34 ∧ t34 < ((4 : Nat) : Int)) ∧ (Fun cfg 35 [.one (.ptr 0 ⟨0, 0, 0, 0⟩), .one (.sc (.int .i64 a6))] [(cm_floats.c2 a0 a1 a2 a3 a4 a5 a6 a7 a8 a9), .ex false [.c (.os 2 0 0 1 (List.length a12) none), .c (.sc (.int .i64 a10)), .c (.sc (.int .i64 a11))] 33, .fix false (.int .u8) a12 5] (cm_float.R (.inr t39)) (cm_float.B a6 a0 a1 a2 a3 a4 a5 a6 a7 a8 a9 a10 a11 a12 (.inr t39)) ∧ U) ∧ (0 ≤ t39 ∧ t39 < ((4 : Nat) : Int)) ∧ ((Int.toNat t34) < 4) ∧ (U) ∧ ((Int.toNat t39) < 4) ∧ (Fun cfg 41 [.one (.sc (.int .i64 a4)), .one (.sc (.int .u64 (List.getD a3 (Int.toNat t34) (0 : Int)))), .one (.sc (.int .u64 (List.getD a3 (Int.toNat t39) (0 : Int))))] [] (alu_Float.R t42) [] ∧ U) ∧ U ∧ (⟨([P0, A, vi .i64 a5, vi .i64 a6, vi .u64 t42.1, .v (.one (.err t42.2)), P0, P0, pt 23 0 0, pt 24 0 0, vi .i64 a5, P0, P0, pt 23 0 0, pt 25 0 0, vi .i64 a6, P0, P0, pt 23 0 0, pt 23 0 0, vi .i64 a4, .tup [.one (.sc (.int .u64 t42.1)), .one (.err t42.2)], P0, P0, pt 23 0 0, pt 23 0 0, vi .i64 a4, P0, P0, vi .i64 a5, vi .i64 t34, P0, pt 1 0 0, pt 19 0 0, pt 19 (Int.toNat t34) 1, vi .u64 (List.getD a3 (Int.toNat t34) (0 : Int)), P0, P0, vi .i64 a6, vi .i64 t39, P0, pt 1 0 0, pt 19 0 0, pt 19 (Int.toNat t39) 1, vi .u64 (List.getD a3 (Int.toNat t39) (0 : Int)), .tup [.one (.sc (.int .u64 t42.1)), .one (.err t42.2)], vi .u64 t42.1, .v (.one (.err t42.2))] ++ (rA 14 ([vb (a4 == (39 : Int)), vb (a4 == (39 : Int))] ++ (rA 16 ([vb (a4 == (40 : Int)), vb (a4 == (40 : Int))] ++ (rA 16 ([vb (a4 == (38 : Int)), vb (a4 == (38 : Int))] ++ (rA 28 [])))))))), [(cm_floats.c2 a0 a1 a2 a3 a4 a5 a6 a7 a8 a9), .ex false [.c (.os 2 0 0 1 (List.length a12) none), .c (.sc (.int .i64 a10)), .c (.sc (.int .i64 a11))] 33, .fix false (.int .u8) a12 5], 3⟩ : St) = ⟨([P0, A, vi .i64 a5, vi .i64 a6, vi .u64 t42.1, .v (.one (.err t42.2)), P0, P0, pt 23 0 0, pt 24 0 0, vi .i64 a5, P0, P0, pt 23 0 0, pt 25 0 0, vi .i64 a6, P0, P0, pt 23 0 0, pt 23 0 0, vi .i64 a4, .tup [.one (.sc (.int .u64 t42.1)), .one (.err t42.2)], P0, P0, pt 23 0 0, pt 23 0 0, vi .i64 a4, P0, P0, vi .i64 a5, vi .i64 t34, P0, pt 1 0 0, pt 19 0 0, pt 19 (Int.toNat t34) 1, vi .u64 (List.getD a3 (Int.toNat t34) (0 : Int)), P0, P0, vi .i64 a6, vi .i64 t39, P0, pt 1 0 0, pt 19 0 0, pt 19 (Int.toNat t39) 1, vi .u64 (List.getD a3 (Int.toNat t39) (0 : Int)), .tup [.one (.sc (.int .u64 t42.1)), .one (.err t42.2)], vi .u64 t42.1, .v (.one (.err t42.2))] ++ (rA 14 ([vb (a4 == (39 : Int)), vb (a4 == (39 : Int))] ++ (rA 16 ([vb (a4 == (40 : Int)), vb (a4 == (40 : Int))] ++ (rA 16 ([vb (a4 == (38 : Int)), vb (a4 == (38 : Int))] ++ (rA 28 [])))))))), [(cm_floats.c2 a0 a1 a2 a3 a4 a5 a6 a7 a8 a9), .ex false [.c (.os 2 0 0 1 (List.length a12) none), .c (.sc (.int .i64 a10)), .c (.sc (.int .i64 a11))] 33, .fix false (.int .u8) a12 5], 3⟩) ∧ U) ∧ (U) ∧ (((!(Option.isNone t42.2)) = true → (U) ∧ (∃ t44 : Int × Int, (FunX cfg 21 [.one (.sc (.int .i64 (4 : Int))), .one (.sc (.int .u32 a8))] [] (.iface 64 (.agg #[.int .i64 t44.1, .int .u32 t44.2])) (cpu_fail.B (4 : Int) a8 t44) ∧ U) ∧ (cm_floats.P r = true ∧ (U) ∧ (.v (.one (.sc (.iface 64 (.agg #[.int .i64 t44.1, .int .u32 t44.2])))) : Tm) = cm_floats.R r ∧ ([(cm_floats.c2 a0 a1 a2 a3 a4 a5 a6 a7 a8 a9), .ex false [.c (.os 2 0 0 1 (List.length a12) none), .c (.sc (.int .i64 a10)), .c (.sc (.int .i64 a11))] 33, .fix false (.int .u8) a12 5] : List Box) = cm_floats.B a0 a1 a2 a3 a4 a5 a6 a7 a8 a9 a10 a11 a12 r))) ∧ ((!(Option.isNone t42.2)) = false → (U ∧ (U ∧ (0 ≤ a5 ∧ a5 < ((4 : Nat) : Int)) ∧ ((Int.toNat a5) < 4) ∧ (cm_floats.P r = false ∧ (U) ∧ (U) ∧ (.tup [] : Tm) = cm_floats.R r ∧ ([.ex false [.c (.ip 29 1), .row 16 (.int .u32) a0, .c (.sc (.int .u32 a1)), .c (.sc (.int .u32 a2)), .row 4 (.int .u64) (List.set a3 (Int.toNat a5) t42.1), .c (.sc (.int .i64 a4)), .c (.sc (.int .i64 a5)), .c (.sc (.int .i64 a6)), .c (.sc (.int .i64 a7)), .c (.sc (.int .u32 a8)), .c (.sc (.int .i64 a9))] 62, .ex false [.c (.os 2 0 0 1 (List.length a12) none), .c (.sc (.int .i64 a10)), .c (.sc (.int .i64 a11))] 33, .fix false (.int .u8) a12 5] : List Box) = cm_floats.B a0 a1 a2 a3 a4 a5 a6 a7 a8 a9 a10 a11 a12 r)))))))))))))))))) (by kernel_rfl) ?_)
  refine ⟨T, T, ?_⟩
  refine ⟨T, T, ?_⟩
  refine ⟨fun b1 => ?_, fun b1 => ?_⟩
  · rw [if_pos (beq_t b1)] at h
    obtain ⟨t2, ht2, h⟩ := of_bind h
    rcases t2 with t3 | t4
    · dsimp only at h
      left
      have hP : (∃ t3 : Int × Int, (FunX cfg 35 [.one (.ptr 0 ⟨0, 0, 0, 0⟩), .one (.sc (.int .i64 a6))] (kB0 a0 a1 a2 a3 a4 a5 a6 a7 a8 a9 a12 a10 a11) (.iface 64 (.agg #[.int .i64 t3.1, .int .u32 t3.2])) (cm_float.B a6 a0 a1 a2 a3 a4 a5 a6 a7 a8 a9 a10 a11 a12 (.inl t3)) ∧ U) ∧ (cm_floats.P r = true ∧ (U) ∧ (.v (.one (.sc (.iface 64 (.agg #[.int .i64 t3.1, .int .u32 t3.2])))) : Tm) = cm_floats.R r ∧ ((kB0 a0 a1 a2 a3 a4 a5 a6 a7 a8 a9 a12 a10 a11) : List Box) = cm_floats.B a0 a1 a2 a3 a4 a5 a6 a7 a8 a9 a10 a11 a12 r)) := by
        refine ⟨t3, ⟨cm_float.fun_ ht2, T⟩, ?_⟩
        obtain rfl := oi h
        exact ⟨rfl, T, rfl, rfl⟩
      exact ⟨hP, T⟩
    · dsimp only at h
      right
      refine ⟨t4, ?_⟩
      obtain ⟨g5, h⟩ := of_guard h
      obtain ⟨g6, h⟩ := of_guard h
      obtain ⟨t7, ht7, h⟩ := of_bind h
      refine ⟨t7, ?_⟩
      obtain ⟨g8, h⟩ := of_guard h
      obtain ⟨g9, h⟩ := of_guard h
      refine ⟨⟨cm_float.fun_ ht2, T⟩, g5, g6, ⟨soft_ToInt.fun_ ht7, T⟩, g8, g9, ?_⟩
      obtain rfl := oi h
      exact ⟨rfl, T, T, rfl, rfl⟩
  · rw [if_neg (beq_f b1)] at h
    refine tI ?_
    refine ⟨fun b10 => ?_, fun b10 => ?_⟩
    · rw [if_pos (beq_t b10)] at h
      obtain ⟨g11, h⟩ := of_guard h
      obtain ⟨t12, ht12, h⟩ := of_bind h
      rcases t12 with t13 | t15
      · dsimp only at h
        left
        obtain ⟨g14, h⟩ := of_guard h
        have hP : (∃ t13 : Int × Int, (FunX cfg 35 [.one (.ptr 0 ⟨0, 0, 0, 0⟩), .one (.sc (.int .i64 a5))] (kB0 a0 a1 a2 a3 a4 a5 a6 a7 a8 a9 a12 a10 a11) (.iface 64 (.agg #[.int .i64 t13.1, .int .u32 t13.2])) (cm_float.B a5 a0 a1 a2 a3 a4 a5 a6 a7 a8 a9 a10 a11 a12 (.inl t13)) ∧ U) ∧ (cm_floats.P r = true ∧ (U) ∧ (.v (.one (.sc (.iface 64 (.agg #[.int .i64 t13.1, .int .u32 t13.2])))) : Tm) = cm_floats.R r ∧ ((kB0 a0 a1 a2 a3 a4 a5 a6 a7 a8 a9 a12 a10 a11) : List Box) = cm_floats.B a0 a1 a2 a3 a4 a5 a6 a7 a8 a9 a10 a11 a12 r)) := by
          refine ⟨t13, ⟨cm_float.fun_ ht12, T⟩, ?_⟩
          obtain rfl := oi h
          exact ⟨rfl, T, rfl, rfl⟩
        exact ⟨⟨g11, g14, hP⟩, T⟩
      · dsimp only at h
        right
        refine ⟨t15, ?_⟩
        obtain ⟨g16, h⟩ := of_guard h
        obtain ⟨t17, ht17, h⟩ := of_bind h
        refine ⟨t17, ?_⟩
        obtain ⟨g18, h⟩ := of_guard h
        obtain ⟨g19, h⟩ := of_guard h
        refine ⟨⟨g11, ⟨cm_float.fun_ ht12, T⟩, g16, ⟨soft_FromInt.fun_ ht17, T⟩, g18, g19, rfl⟩, ⟨⟨g11, g16, ⟨cm_float.fun_ ht12, T⟩, ⟨soft_FromInt.fun_ ht17, T⟩, g18, g19, T, rfl⟩, T⟩, ?_⟩
        obtain rfl := oi h
        exact ⟨rfl, T, T, rfl, rfl⟩
    · rw [if_neg (beq_f b10)] at h
      refine tI ?_
      refine ⟨fun b20 => ?_, fun b20 => ?_⟩
      · rw [if_pos (beq_t b20)] at h
        obtain ⟨t21, ht21, h⟩ := of_bind h
        rcases t21 with t22 | t23
        · dsimp only at h
          left
          have hP : (∃ t22 : Int × Int, (FunX cfg 35 [.one (.ptr 0 ⟨0, 0, 0, 0⟩), .one (.sc (.int .i64 a5))] (kB0 a0 a1 a2 a3 a4 a5 a6 a7 a8 a9 a12 a10 a11) (.iface 64 (.agg #[.int .i64 t22.1, .int .u32 t22.2])) (cm_float.B a5 a0 a1 a2 a3 a4 a5 a6 a7 a8 a9 a10 a11 a12 (.inl t22)) ∧ U) ∧ (cm_floats.P r = true ∧ (U) ∧ (.v (.one (.sc (.iface 64 (.agg #[.int .i64 t22.1, .int .u32 t22.2])))) : Tm) = cm_floats.R r ∧ ((kB0 a0 a1 a2 a3 a4 a5 a6 a7 a8 a9 a12 a10 a11) : List Box) = cm_floats.B a0 a1 a2 a3 a4 a5 a6 a7 a8 a9 a10 a11 a12 r)) := by
            refine ⟨t22, ⟨cm_float.fun_ ht21, T⟩, ?_⟩
            obtain rfl := oi h
            exact ⟨rfl, T, rfl, rfl⟩
          exact ⟨⟨T, hP⟩, T⟩
        · dsimp only at h
          right
          refine ⟨t23, ?_⟩
          obtain ⟨g24, h⟩ := of_guard h
          obtain ⟨g25, h⟩ := of_guard h
          obtain ⟨t26, ht26, h⟩ := of_bind h
          rcases t26 with t27 | t28
          · dsimp only at h
            left
            have hP : (∃ t27 : Int × Int, (FunX cfg 35 [.one (.ptr 0 ⟨0, 0, 0, 0⟩), .one (.sc (.int .i64 a6))] (kB0 a0 a1 a2 a3 a4 a5 a6 a7 a8 a9 a12 a10 a11) (.iface 64 (.agg #[.int .i64 t27.1, .int .u32 t27.2])) (cm_float.B a6 a0 a1 a2 a3 a4 a5 a6 a7 a8 a9 a10 a11 a12 (.inl t27)) ∧ U) ∧ (cm_floats.P r = true ∧ (U) ∧ (.v (.one (.sc (.iface 64 (.agg #[.int .i64 t27.1, .int .u32 t27.2])))) : Tm) = cm_floats.R r ∧ ((kB0 a0 a1 a2 a3 a4 a5 a6 a7 a8 a9 a12 a10 a11) : List Box) = cm_floats.B a0 a1 a2 a3 a4 a5 a6 a7 a8 a9 a10 a11 a12 r)) := by
              refine ⟨t27, ⟨cm_float.fun_ ht26, T⟩, ?_⟩
              obtain rfl := oi h
              exact ⟨rfl, T, rfl, rfl⟩
            exact ⟨⟨⟨cm_float.fun_ ht21, T⟩, g24, g25, T, hP⟩, ⟨⟨cm_float.fun_ ht21, T⟩, g24, T, g25, hP⟩, ⟨T, ⟨cm_float.fun_ ht21, T⟩, g24, g25, hP⟩, T⟩
          · dsimp only at h
            right
            refine ⟨t28, ?_⟩
            obtain ⟨g29, h⟩ := of_guard h
            obtain ⟨g30, h⟩ := of_guard h
            obtain ⟨t31, ht31, h⟩ := of_bind h
            refine ⟨t31, ?_⟩
            refine ⟨⟨⟨cm_float.fun_ ht21, T⟩, g24, g25, ⟨cm_float.fun_ ht26, T⟩, g29, g30, T, ⟨alu_Cmp.fun_ ht31, T⟩, T, rfl⟩, ⟨⟨⟨cm_float.fun_ ht21, T⟩, g24, g25, T, ⟨cm_float.fun_ ht26, T⟩, g29, g30, ⟨alu_Cmp.fun_ ht31, T⟩, T, T, rfl⟩, ⟨⟨cm_float.fun_ ht21, T⟩, g24, ⟨cm_float.fun_ ht26, T⟩, g29, g25, g30, T, ⟨alu_Cmp.fun_ ht31, T⟩, T, T, rfl⟩, ⟨⟨cm_float.fun_ ht21, T⟩, g24, ⟨cm_float.fun_ ht26, T⟩, g29, g30, T, g25, ⟨alu_Cmp.fun_ ht31, T⟩, T, T, rfl⟩, ⟨⟨cm_float.fun_ ht21, T⟩, g24, T, g25, ⟨cm_float.fun_ ht26, T⟩, g29, g30, ⟨alu_Cmp.fun_ ht31, T⟩, T, T, rfl⟩, ⟨⟨cm_float.fun_ ht21, T⟩, g24, T, ⟨cm_float.fun_ ht26, T⟩, g29, g25, g30, ⟨alu_Cmp.fun_ ht31, T⟩, T, T, rfl⟩, ⟨T, ⟨cm_float.fun_ ht21, T⟩, g24, g25, ⟨cm_float.fun_ ht26, T⟩, g29, g30, ⟨alu_Cmp.fun_ ht31, T⟩, T, T, rfl⟩, ⟨T, ⟨cm_float.fun_ ht21, T⟩, g24, ⟨cm_float.fun_ ht26, T⟩, g29, g25, g30, ⟨alu_Cmp.fun_ ht31, T⟩, T, T, rfl⟩, T⟩, ?_⟩
            obtain rfl := oi h
            exact ⟨rfl, T, T, rfl, rfl⟩
      · rw [if_neg (beq_f b20)] at h
        obtain ⟨t32, ht32, h⟩ := of_bind h
        rcases t32 with t33 | t34
        · dsimp only at h
          left
          have hP : (∃ t33 : Int × Int, (FunX cfg 35 [.one (.ptr 0 ⟨0, 0, 0, 0⟩), .one (.sc (.int .i64 a5))] (kB0 a0 a1 a2 a3 a4 a5 a6 a7 a8 a9 a12 a10 a11) (.iface 64 (.agg #[.int .i64 t33.1, .int .u32 t33.2])) (cm_float.B a5 a0 a1 a2 a3 a4 a5 a6 a7 a8 a9 a10 a11 a12 (.inl t33)) ∧ U) ∧ (cm_floats.P r = true ∧ (U) ∧ (.v (.one (.sc (.iface 64 (.agg #[.int .i64 t33.1, .int .u32 t33.2])))) : Tm) = cm_floats.R r ∧ ((kB0 a0 a1 a2 a3 a4 a5 a6 a7 a8 a9 a12 a10 a11) : List Box) = cm_floats.B a0 a1 a2 a3 a4 a5 a6 a7 a8 a9 a10 a11 a12 r)) := by
            refine ⟨t33, ⟨cm_float.fun_ ht32, T⟩, ?_⟩
            obtain rfl := oi h
            exact ⟨rfl, T, rfl, rfl⟩
          exact ⟨⟨T, hP⟩, T⟩
        · dsimp only at h
          right
          refine ⟨t34, ?_⟩
          obtain ⟨g35, h⟩ := of_guard h
          obtain ⟨g36, h⟩ := of_guard h
          obtain ⟨t37, ht37, h⟩ := of_bind h
          rcases t37 with t38 | t39
          · dsimp only at h
            left
            have hP : (∃ t38 : Int × Int, (FunX cfg 35 [.one (.ptr 0 ⟨0, 0, 0, 0⟩), .one (.sc (.int .i64 a6))] (kB0 a0 a1 a2 a3 a4 a5 a6 a7 a8 a9 a12 a10 a11) (.iface 64 (.agg #[.int .i64 t38.1, .int .u32 t38.2])) (cm_float.B a6 a0 a1 a2 a3 a4 a5 a6 a7 a8 a9 a10 a11 a12 (.inl t38)) ∧ U) ∧ (cm_floats.P r = true ∧ (U) ∧ (.v (.one (.sc (.iface 64 (.agg #[.int .i64 t38.1, .int .u32 t38.2])))) : Tm) = cm_floats.R r ∧ ((kB0 a0 a1 a2 a3 a4 a5 a6 a7 a8 a9 a12 a10 a11) : List Box) = cm_floats.B a0 a1 a2 a3 a4 a5 a6 a7 a8 a9 a10 a11 a12 r)) := by
              refine ⟨t38, ⟨cm_float.fun_ ht37, T⟩, ?_⟩
              obtain rfl := oi h
              exact ⟨rfl, T, rfl, rfl⟩
            exact ⟨⟨T, ⟨cm_float.fun_ ht32, T⟩, g35, g36, hP⟩, ⟨⟨cm_float.fun_ ht32, T⟩, g35, T, g36, hP⟩, ⟨⟨cm_float.fun_ ht32, T⟩, g35, g36, T, hP⟩, T⟩
          · dsimp only at h
            right
            refine ⟨t39, ?_⟩
            obtain ⟨g40, h⟩ := of_guard h
            obtain ⟨g41, h⟩ := of_guard h
            obtain ⟨t42, ht42, h⟩ := of_bind h
            refine ⟨t42, ?_⟩
            refine ⟨⟨T, ⟨cm_float.fun_ ht32, T⟩, g35, g36, ⟨cm_float.fun_ ht37, T⟩, g40, g41, ⟨alu_Float.fun_ ht42, T⟩, rfl⟩, ⟨⟨T, ⟨cm_float.fun_ ht32, T⟩, g35, ⟨cm_float.fun_ ht37, T⟩, g40, g36, g41, ⟨alu_Float.fun_ ht42, T⟩, T, rfl⟩, ⟨⟨cm_float.fun_ ht32, T⟩, g35, T, g36, ⟨cm_float.fun_ ht37, T⟩, g40, g41, ⟨alu_Float.fun_ ht42, T⟩, T, rfl⟩, ⟨⟨cm_float.fun_ ht32, T⟩, g35, T, ⟨cm_float.fun_ ht37, T⟩, g40, g36, g41, ⟨alu_Float.fun_ ht42, T⟩, T, rfl⟩, ⟨⟨cm_float.fun_ ht32, T⟩, g35, g36, T, ⟨cm_float.fun_ ht37, T⟩, g40, g41, ⟨alu_Float.fun_ ht42, T⟩, T, rfl⟩, ⟨⟨cm_float.fun_ ht32, T⟩, g35, g36, ⟨cm_float.fun_ ht37, T⟩, g40, T, g41, ⟨alu_Float.fun_ ht42, T⟩, T, rfl⟩, ⟨⟨cm_float.fun_ ht32, T⟩, g35, ⟨cm_float.fun_ ht37, T⟩, g40, T, g36, g41, ⟨alu_Float.fun_ ht42, T⟩, T, rfl⟩, ⟨⟨cm_float.fun_ ht32, T⟩, g35, ⟨cm_float.fun_ ht37, T⟩, g40, g36, T, g41, ⟨alu_Float.fun_ ht42, T⟩, T, rfl⟩, T⟩, ?_⟩
            refine tI ?_
            refine ⟨fun b43 => ?_, fun b43 => ?_⟩
            · rw [if_pos (none_f (not_t b43))] at h
              refine tI ?_
              obtain ⟨t44, ht44, h⟩ := of_bind h
              refine ⟨t44, ⟨cpu_fail.fun_ ht44, T⟩, ?_⟩
              obtain rfl := oi h
              exact ⟨rfl, T, rfl, rfl⟩
            · rw [if_neg (not_not_intro (none_t (not_f b43)))] at h
              refine ⟨T, T, ?_⟩
              obtain ⟨g46, h⟩ := of_guard h
              refine ⟨g46, ?_⟩
              obtain ⟨g45, h⟩ := of_guard h
              refine ⟨g45, ?_⟩
              obtain rfl := oi h
              exact ⟨rfl, T, T, rfl, rfl⟩
def cm_do.c0 (a0 : (List Int)) (a1 : Int) (a2 : Int) (a3 : (List Int)) (a4 : Int) (a5 : Int) (a6 : Int) (a7 : Int) (a8 : Int) (a9 : Int) : Box := .ex false [.c (.ip 29 1), .row 16 (.int .u32) a0, .c (.sc (.int .u32 a1)), .c (.sc (.int .u32 a2)), .row 4 (.int .u64) a3, .c (.sc (.int .i64 a4)), .c (.sc (.int .i64 a5)), .c (.sc (.int .i64 a6)), .c (.sc (.int .i64 a7)), .c (.sc (.int .u32 a8)), .c (.sc (.int .i64 a9))] 62
def cm_do.f (a0 : (List Int)) (a1 : Int) (a2 : Int) (a3 : (List Int)) (a4 : Int) (a5 : Int) (a6 : Int) (a7 : Int) (a8 : Int) (a9 : Int) (a10 : Int) (a11 : Int) (a12 : (List Int)) : Option ((TY0) ⊕ (Int × Int × Int × (List Int))) :=
  if a4 = (0 : Int) then
    some (.inl (a0, a1, a2, a3, a9, a11, a12))
  else
    if a4 = (29 : Int) then
      some (.inl (a0, a1, a2, a3, (1 : Int), a11, a12))
    else
      if a4 = (30 : Int) then
        some (.inl (a0, a1, a2, a3, (2 : Int), a11, a12))
      else
        if a4 = (1 : Int) then
          (cm_lay.f a0 a1 a2 a3 a4 a5 a6 a7 a8 a9 a10 a11 a12).bind fun t5 =>
          some (.inl (t5, a1, a2, a3, a9, a11, a12))
        else
          if a4 = (2 : Int) then
            (cm_lay.f a0 a1 a2 a3 a4 a5 a6 a7 a8 a9 a10 a11 a12).bind fun t7 =>
            some (.inl (t7, a1, a2, a3, a9, a11, a12))
          else
            if a4 = (3 : Int) then
              (cm_lay.f a0 a1 a2 a3 a4 a5 a6 a7 a8 a9 a10 a11 a12).bind fun t9 =>
              some (.inl (t9, a1, a2, a3, a9, a11, a12))
            else
              if a4 = (15 : Int) then
                (cm_lay.f a0 a1 a2 a3 a4 a5 a6 a7 a8 a9 a10 a11 a12).bind fun t11 =>
                some (.inl (t11, a1, a2, a3, a9, a11, a12))
              else
                if a4 = (41 : Int) then
                  (cm_lay.f a0 a1 a2 a3 a4 a5 a6 a7 a8 a9 a10 a11 a12).bind fun t13 =>
                  some (.inl (t13, a1, a2, a3, a9, a11, a12))
                else
                  if a4 ≥ (4 : Int) then
                    if a4 ≤ (14 : Int) then
                      (cm_reckon.f a0 a1 a2 a3 a4 a5 a6 a7 a8 a9 a10 a11 a12).bind fun t16 =>
                      match t16 with
                      | .inl t17 =>
                        some (.inr (t17.1, t17.2, a11, a12))
                      | .inr t18 =>
                        some (.inl (t18.1, a1, t18.2, a3, a9, a11, a12))
                    else
                      if a4 = (16 : Int) then
                        (cm_reckon.f a0 a1 a2 a3 a4 a5 a6 a7 a8 a9 a10 a11 a12).bind fun t20 =>
                        match t20 with
                        | .inl t21 =>
                          some (.inr (t21.1, t21.2, a11, a12))
                        | .inr t22 =>
                          some (.inl (t22.1, a1, t22.2, a3, a9, a11, a12))
                      else
                        if a4 ≥ (17 : Int) then
                          if a4 ≤ (20 : Int) then
                            (cm_move.f a0 a1 a2 a3 a4 a5 a6 a7 a8 a9 a10 a11 a12).bind fun t25 =>
                            match t25 with
                            | .inl t26 =>
                              some (.inl (t26.1, a1, a2, t26.2.1, a9, t26.2.2.1, t26.2.2.2))
                            | .inr t27 =>
                              some (.inr (t27.1, t27.2.1, t27.2.2.1, t27.2.2.2))
                          else
                            if a4 = (31 : Int) then
                              (cm_move.f a0 a1 a2 a3 a4 a5 a6 a7 a8 a9 a10 a11 a12).bind fun t29 =>
                              match t29 with
                              | .inl t30 =>
                                some (.inl (t30.1, a1, a2, t30.2.1, a9, t30.2.2.1, t30.2.2.2))
                              | .inr t31 =>
                                some (.inr (t31.1, t31.2.1, t31.2.2.1, t31.2.2.2))
                            else
                              if a4 = (32 : Int) then
                                (cm_move.f a0 a1 a2 a3 a4 a5 a6 a7 a8 a9 a10 a11 a12).bind fun t33 =>
                                match t33 with
                                | .inl t34 =>
                                  some (.inl (t34.1, a1, a2, t34.2.1, a9, t34.2.2.1, t34.2.2.2))
                                | .inr t35 =>
                                  some (.inr (t35.1, t35.2.1, t35.2.2.1, t35.2.2.2))
                              else
                                if a4 ≥ (21 : Int) then
                                  if a4 ≤ (28 : Int) then
                                    (cm_leap.f a0 a1 a2 a3 a4 a5 a6 a7 a8 a9 a10 a11 a12).bind fun t38 =>
                                    match t38 with
                                    | .inl t39 =>
                                      some (.inl (t39.1, t39.2, a2, a3, a9, a11, a12))
                                    | .inr t40 =>
                                      some (.inr (t40.1, t40.2, a11, a12))
                                  else
                                    (cm_floats.f a0 a1 a2 a3 a4 a5 a6 a7 a8 a9 a10 a11 a12).bind fun t41 =>
                                    match t41 with
                                    | .inl t42 =>
                                      some (.inr (t42.1, t42.2, a11, a12))
                                    | .inr t43 =>
                                      some (.inl (t43.1, a1, t43.2.1, t43.2.2, a9, a11, a12))
                                else
                                  (cm_floats.f a0 a1 a2 a3 a4 a5 a6 a7 a8 a9 a10 a11 a12).bind fun t44 =>
                                  match t44 with
                                  | .inl t45 =>
                                    some (.inr (t45.1, t45.2, a11, a12))
                                  | .inr t46 =>
                                    some (.inl (t46.1, a1, t46.2.1, t46.2.2, a9, a11, a12))
                        else
                          if a4 = (31 : Int) then
                            (cm_move.f a0 a1 a2 a3 a4 a5 a6 a7 a8 a9 a10 a11 a12).bind fun t48 =>
                            match t48 with
                            | .inl t49 =>
                              some (.inl (t49.1, a1, a2, t49.2.1, a9, t49.2.2.1, t49.2.2.2))
                            | .inr t50 =>
                              some (.inr (t50.1, t50.2.1, t50.2.2.1, t50.2.2.2))
                          else
                            if a4 = (32 : Int) then
                              (cm_move.f a0 a1 a2 a3 a4 a5 a6 a7 a8 a9 a10 a11 a12).bind fun t52 =>
                              match t52 with
                              | .inl t53 =>
                                some (.inl (t53.1, a1, a2, t53.2.1, a9, t53.2.2.1, t53.2.2.2))
                              | .inr t54 =>
                                some (.inr (t54.1, t54.2.1, t54.2.2.1, t54.2.2.2))
                            else
                              if a4 ≥ (21 : Int) then
                                if a4 ≤ (28 : Int) then
                                  (cm_leap.f a0 a1 a2 a3 a4 a5 a6 a7 a8 a9 a10 a11 a12).bind fun t57 =>
                                  match t57 with
                                  | .inl t58 =>
                                    some (.inl (t58.1, t58.2, a2, a3, a9, a11, a12))
                                  | .inr t59 =>
                                    some (.inr (t59.1, t59.2, a11, a12))
                                else
                                  (cm_floats.f a0 a1 a2 a3 a4 a5 a6 a7 a8 a9 a10 a11 a12).bind fun t60 =>
                                  match t60 with
                                  | .inl t61 =>
                                    some (.inr (t61.1, t61.2, a11, a12))
                                  | .inr t62 =>
                                    some (.inl (t62.1, a1, t62.2.1, t62.2.2, a9, a11, a12))
                              else
                                (cm_floats.f a0 a1 a2 a3 a4 a5 a6 a7 a8 a9 a10 a11 a12).bind fun t63 =>
                                match t63 with
                                | .inl t64 =>
                                  some (.inr (t64.1, t64.2, a11, a12))
                                | .inr t65 =>
                                  some (.inl (t65.1, a1, t65.2.1, t65.2.2, a9, a11, a12))
                  else
                    if a4 = (16 : Int) then
                      (cm_reckon.f a0 a1 a2 a3 a4 a5 a6 a7 a8 a9 a10 a11 a12).bind fun t67 =>
                      match t67 with
                      | .inl t68 =>
                        some (.inr (t68.1, t68.2, a11, a12))
                      | .inr t69 =>
                        some (.inl (t69.1, a1, t69.2, a3, a9, a11, a12))
                    else
                      if a4 ≥ (17 : Int) then
                        if a4 ≤ (20 : Int) then
                          (cm_move.f a0 a1 a2 a3 a4 a5 a6 a7 a8 a9 a10 a11 a12).bind fun t72 =>
                          match t72 with
                          | .inl t73 =>
                            some (.inl (t73.1, a1, a2, t73.2.1, a9, t73.2.2.1, t73.2.2.2))
                          | .inr t74 =>
                            some (.inr (t74.1, t74.2.1, t74.2.2.1, t74.2.2.2))
                        else
                          if a4 = (31 : Int) then
                            (cm_move.f a0 a1 a2 a3 a4 a5 a6 a7 a8 a9 a10 a11 a12).bind fun t76 =>
                            match t76 with
                            | .inl t77 =>
                              some (.inl (t77.1, a1, a2, t77.2.1, a9, t77.2.2.1, t77.2.2.2))
                            | .inr t78 =>
                              some (.inr (t78.1, t78.2.1, t78.2.2.1, t78.2.2.2))
                          else
                            if a4 = (32 : Int) then
                              (cm_move.f a0 a1 a2 a3 a4 a5 a6 a7 a8 a9 a10 a11 a12).bind fun t80 =>
                              match t80 with
                              | .inl t81 =>
                                some (.inl (t81.1, a1, a2, t81.2.1, a9, t81.2.2.1, t81.2.2.2))
                              | .inr t82 =>
                                some (.inr (t82.1, t82.2.1, t82.2.2.1, t82.2.2.2))
                            else
                              if a4 ≥ (21 : Int) then
                                if a4 ≤ (28 : Int) then
                                  (cm_leap.f a0 a1 a2 a3 a4 a5 a6 a7 a8 a9 a10 a11 a12).bind fun t85 =>
                                  match t85 with
                                  | .inl t86 =>
                                    some (.inl (t86.1, t86.2, a2, a3, a9, a11, a12))
                                  | .inr t87 =>
                                    some (.inr (t87.1, t87.2, a11, a12))
                                else
                                  (cm_floats.f a0 a1 a2 a3 a4 a5 a6 a7 a8 a9 a10 a11 a12).bind fun t88 =>
                                  match t88 with
                                  | .inl t89 =>
                                    some (.inr (t89.1, t89.2, a11, a12))
                                  | .inr t90 =>
                                    some (.inl (t90.1, a1, t90.2.1, t90.2.2, a9, a11, a12))
                              else
                                (cm_floats.f a0 a1 a2 a3 a4 a5 a6 a7 a8 a9 a10 a11 a12).bind fun t91 =>
                                match t91 with
                                | .inl t92 =>
                                  some (.inr (t92.1, t92.2, a11, a12))
                                | .inr t93 =>
                                  some (.inl (t93.1, a1, t93.2.1, t93.2.2, a9, a11, a12))
                      else
                        if a4 = (31 : Int) then
                          (cm_move.f a0 a1 a2 a3 a4 a5 a6 a7 a8 a9 a10 a11 a12).bind fun t95 =>
                          match t95 with
                          | .inl t96 =>
                            some (.inl (t96.1, a1, a2, t96.2.1, a9, t96.2.2.1, t96.2.2.2))
                          | .inr t97 =>
                            some (.inr (t97.1, t97.2.1, t97.2.2.1, t97.2.2.2))
                        else
                          if a4 = (32 : Int) then
                            (cm_move.f a0 a1 a2 a3 a4 a5 a6 a7 a8 a9 a10 a11 a12).bind fun t99 =>
                            match t99 with
                            | .inl t100 =>
                              some (.inl (t100.1, a1, a2, t100.2.1, a9, t100.2.2.1, t100.2.2.2))
                            | .inr t101 =>
                              some (.inr (t101.1, t101.2.1, t101.2.2.1, t101.2.2.2))
                          else
                            if a4 ≥ (21 : Int) then
                              if a4 ≤ (28 : Int) then
                                (cm_leap.f a0 a1 a2 a3 a4 a5 a6 a7 a8 a9 a10 a11 a12).bind fun t104 =>
                                match t104 with
                                | .inl t105 =>
                                  some (.inl (t105.1, t105.2, a2, a3, a9, a11, a12))
                                | .inr t106 =>
                                  some (.inr (t106.1, t106.2, a11, a12))
                              else
                                (cm_floats.f a0 a1 a2 a3 a4 a5 a6 a7 a8 a9 a10 a11 a12).bind fun t107 =>
                                match t107 with
                                | .inl t108 =>
                                  some (.inr (t108.1, t108.2, a11, a12))
                                | .inr t109 =>
                                  some (.inl (t109.1, a1, t109.2.1, t109.2.2, a9, a11, a12))
                            else
                              (cm_floats.f a0 a1 a2 a3 a4 a5 a6 a7 a8 a9 a10 a11 a12).bind fun t110 =>
                              match t110 with
                              | .inl t111 =>
                                some (.inr (t111.1, t111.2, a11, a12))
                              | .inr t112 =>
                                some (.inl (t112.1, a1, t112.2.1, t112.2.2, a9, a11, a12))
def cm_do.R : (TY0) ⊕ (Int × Int × Int × (List Int)) → Tm
  | .inl r => .tup []
  | .inr r => .v (.one (.sc (.iface 64 (.agg #[.int .i64 r.1, .int .u32 r.2.1]))))
def cm_do.B (a0 : (List Int)) (a1 : Int) (a2 : Int) (a3 : (List Int)) (a4 : Int) (a5 : Int) (a6 : Int) (a7 : Int) (a8 : Int) (a9 : Int) (a10 : Int) (a11 : Int) (a12 : (List Int)) : (TY0) ⊕ (Int × Int × Int × (List Int)) → List Box
  | .inl r => [.ex false [.c (.ip 29 1), .row 16 (.int .u32) r.1, .c (.sc (.int .u32 r.2.1)), .c (.sc (.int .u32 r.2.2.1)), .row 4 (.int .u64) r.2.2.2.1, .c (.sc (.int .i64 a4)), .c (.sc (.int .i64 a5)), .c (.sc (.int .i64 a6)), .c (.sc (.int .i64 a7)), .c (.sc (.int .u32 a8)), .c (.sc (.int .i64 r.2.2.2.2.1))] 62, .ex false [.c (.os 2 0 0 1 (List.length r.2.2.2.2.2.2) none), .c (.sc (.int .i64 a10)), .c (.sc (.int .i64 r.2.2.2.2.2.1))] 33, .fix false (.int .u8) r.2.2.2.2.2.2 5]
  | .inr r => [.ex false [.c (.ip 29 1), .row 16 (.int .u32) a0, .c (.sc (.int .u32 a1)), .c (.sc (.int .u32 a2)), .row 4 (.int .u64) a3, .c (.sc (.int .i64 a4)), .c (.sc (.int .i64 a5)), .c (.sc (.int .i64 a6)), .c (.sc (.int .i64 a7)), .c (.sc (.int .u32 a8)), .c (.sc (.int .i64 a9))] 62, .ex false [.c (.os 2 0 0 1 (List.length r.2.2.2) none), .c (.sc (.int .i64 a10)), .c (.sc (.int .i64 r.2.2.1))] 33, .fix false (.int .u8) r.2.2.2 5]
def cm_do.P : (TY0) ⊕ (Int × Int × Int × (List Int)) → Bool
  | .inl _ => false
  | .inr _ => true
theorem cm_do.P_ : ∀ r : (TY0) ⊕ (Int × Int × Int × (List Int)), cm_do.P r = true → ∃ t p, cm_do.R r = .v (.one (.sc (.iface t p)))
  | .inl _, h => by cases h
  | .inr _, h => ⟨_, _, rfl⟩
end Go.Proofs.YtllannmegnklmaaGCpuFails
