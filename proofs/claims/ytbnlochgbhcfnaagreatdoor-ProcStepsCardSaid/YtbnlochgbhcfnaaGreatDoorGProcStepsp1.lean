/- Printed by gen.py: the next part. -/
import Derived.Test.YtbnlochgbhcfnaaGreatDoorGProcStepsp0
set_option linter.unusedVariables false
set_option maxRecDepth 100000
set_option maxHeartbeats 4000000
namespace Go.Proofs.YtbnlochgbhcfnaaGreatDoorGProcSteps
open Go Go.Proofs.YtbnlochgbhcfnaaGreatDoorE
theorem proc_Post.fun_ {a0 : Int} {a1 : Int} {a2 : ByteArray} {a3 : (List Int)} {a4 : Int} {a5 : Int} {a6 : (List Int)} {a7 : (List Int)} {a8 : Int} {a9 : Int} {a10 : (List Int)} {a11 : Int} {a12 : Bool} {a13 : Int} {a14 : Int} {a15 : Int} {a16 : Bool} {a17 : Bool} {a18 : Bool} {a19 : Int} {a20 : Int} {a21 : Int} {r : TY1} (h : proc_Post.f a0 a1 a2 a3 a4 a5 a6 a7 a8 a9 a10 a11 a12 a13 a14 a15 a16 a17 a18 a19 a20 a21 = some r) : Fun cfg 10 [.agg [.c (.sc (.int .i64 a0)), .c (.sc (.int .i64 a1)), .c (.sc (.string a2)), .row 16 (.int .u32) a3, .c (.sc (.int .u32 a4)), .c (.sc (.int .u32 a5)), .row 4 (.int .u64) a6, .row 8 (.int .i64) a7, .c (.sc (.int .u32 a8)), .c (.sc (.int .u32 a9)), .row 32 (.int .u32) a10, .c (.sc (.int .i64 a11)), .c (.sc (.bool a12)), .c (.sc (.int .u32 a13)), .c (.sc (.int .i64 a14)), .c (.sc (.int .i64 a15)), .c (.sc (.bool a16)), .c (.sc (.bool a17)), .c (.sc (.bool a18)), .c (.sc (.int .i64 a19)), .c (.sc (.int .i64 a20))], .one (.sc (.int .i64 a21))] [] (proc_Post.R r) [] := by
  unfold proc_Post.f at h
  refine fun_of_run cfg_ok (f := 10) (fn := Tryz.f10) Tryz.func10 rfl (by kernel_rfl) (rs := [.cell 4 46, .tmp 5]) rfl (nt := 35) rfl (l := fin) (k := (.call true [] ((Option Int)) proc_Check.R (fun t1 => (.br (aE 2 (.adj [.drop 0] .nil)) (.call true [] (Int × Int × (List Int) × (Option Int)) sig_Post.R (fun t3 => (.br (aE 2 (.adj [.drop 0] .nil)) (.br (oT 3 (aE 3 (.adj [.drop 0] .nil))) (oF 2 (.br (aE 3 (.adj [.drop 0] .nil)) (aE 3 (.adj [.drop 0] .nil)))))))))))) (to_goal (q := (U) ∧ (∃ t1 : (Option Int), (Fun cfg 20 [.agg [.c (.sc (.int .i64 a0)), .c (.sc (.int .i64 a1)), .c (.sc (.string a2)), .row 16 (.int .u32) a3, .c (.sc (.int .u32 a4)), .c (.sc (.int .u32 a5)), .row 4 (.int .u64) a6, .row 8 (.int .i64) a7, .c (.sc (.int .u32 a8)), .c (.sc (.int .u32 a9)), .row 32 (.int .u32) a10, .c (.sc (.int .i64 a11)), .c (.sc (.bool a12)), .c (.sc (.int .u32 a13)), .c (.sc (.int .i64 a14)), .c (.sc (.int .i64 a15)), .c (.sc (.bool a16)), .c (.sc (.bool a17)), .c (.sc (.bool a18)), .c (.sc (.int .i64 a19)), .c (.sc (.int .i64 a20))]] [] (proc_Check.R t1) [] ∧ U) ∧ (U) ∧ (((!(Option.isNone t1)) = true → (U ∧ (U) ∧ (U ∧ (((U) ∧ U) ∧ ((U) ∧ U) ∧ (.tup [proc_Post.c0, .one (.err (some (22 : Int)))] : Tm) = proc_Post.R r ∧ ([] : List Box) = [])))) ∧ ((!(Option.isNone t1)) = false → (U) ∧ (∃ t3 : Int × Int × (List Int) × (Option Int), (Fun cfg 31 [.agg [.c (.sc (.int .u32 a8)), .c (.sc (.int .u32 a9)), .row 32 (.int .u32) a10], .one (.sc (.int .i64 a21))] [] (sig_Post.R t3) [] ∧ U) ∧ (U) ∧ (U) ∧ (((!(Option.isNone (z3 t3))) = true → (U ∧ (U) ∧ (U ∧ (((U) ∧ U) ∧ ((U) ∧ U) ∧ (.tup [proc_Post.c0, .one (.err (z3 t3))] : Tm) = proc_Post.R r ∧ ([] : List Box) = [])))) ∧ ((!(Option.isNone (z3 t3))) = false → (U) ∧ (U) ∧ (U) ∧ (((a21 == (18 : Int)) = false → ((a21 == (18 : Int)) = false ∧ (U) ∧ ((a21 == (18 : Int)) = false ∧ (((a21 == (9 : Int)) = true → (U ∧ (U) ∧ (U) ∧ (U ∧ (U) ∧ (U) ∧ (U ∧ (((U) ∧ U) ∧ ((U) ∧ U) ∧ (.tup [(proc_Post.c1 a0 a1 a2 a3 a4 a5 a6 a7 t3 a11 a12 a13 a14 a15 a16 a19 a20), .one (.err none)] : Tm) = proc_Post.R r ∧ ([] : List Box) = []))))) ∧ ((a21 == (9 : Int)) = false → (U ∧ (U ∧ (U) ∧ (U) ∧ (U ∧ (((U) ∧ U) ∧ ((U) ∧ U) ∧ (.tup [.agg [.c (.sc (.int .i64 a0)), .c (.sc (.int .i64 a1)), .c (.sc (.string a2)), .row 16 (.int .u32) a3, .c (.sc (.int .u32 a4)), .c (.sc (.int .u32 a5)), .row 4 (.int .u64) a6, .row 8 (.int .i64) a7, .c (.sc (.int .u32 t3.1)), .c (.sc (.int .u32 t3.2.1)), .row 32 (.int .u32) (p2 t3), .c (.sc (.int .i64 a11)), .c (.sc (.bool a12)), .c (.sc (.int .u32 a13)), .c (.sc (.int .i64 a14)), .c (.sc (.int .i64 a15)), .c (.sc (.bool a16)), .c (.sc (.bool a17)), .c (.sc (.bool a18)), .c (.sc (.int .i64 a19)), .c (.sc (.int .i64 a20))], .one (.err none)] : Tm) = proc_Post.R r ∧ ([] : List Box) = []))))))))) ∧ ((a21 == (18 : Int)) = true → ((a21 == (18 : Int)) = true ∧ ((a21 == (18 : Int)) = true ∧ (true = true ∧ (U ∧ (U) ∧ (U) ∧ (U ∧ (U) ∧ (U) ∧ (U ∧ (((U) ∧ U) ∧ ((U) ∧ U) ∧ (.tup [(proc_Post.c1 a0 a1 a2 a3 a4 a5 a6 a7 t3 a11 a12 a13 a14 a15 a16 a19 a20), .one (.err none)] : Tm) = proc_Post.R r ∧ ([] : List Box) = [])))))))))))))))) (by kernel_rfl) ?_)
  refine tI ?_
  obtain ⟨t1, ht1, h⟩ := of_bind h
  refine ⟨t1, ⟨proc_Check.fun_ ht1, T⟩, ?_⟩
  refine tI ?_
  refine ⟨fun b2 => ?_, fun b2 => ?_⟩
  · rw [if_pos (none_f (not_t b2))] at h
    refine ⟨T, T, T, ?_⟩
    obtain rfl := oi h
    exact ⟨⟨T, T⟩, ⟨T, T⟩, rfl, rfl⟩
  · rw [if_neg (not_not_intro (none_t (not_f b2)))] at h
    refine tI ?_
    obtain ⟨t3, ht3, h⟩ := of_bind h
    refine ⟨t3, ⟨sig_Post.fun_ ht3, T⟩, ?_⟩
    refine ⟨T, T, ?_⟩
    refine ⟨fun b4 => ?_, fun b4 => ?_⟩
    · rw [if_pos (none_f (not_t b4))] at h
      refine ⟨T, T, T, ?_⟩
      obtain rfl := oi h
      exact ⟨⟨T, T⟩, ⟨T, T⟩, rfl, rfl⟩
    · rw [if_neg (not_not_intro (none_t (not_f b4)))] at h
      refine ⟨T, T, T, ?_⟩
      refine ⟨fun b5 => ?_, fun b5 => ?_⟩
      · rw [if_neg (beq_f b5)] at h
        refine ⟨b5, ?_⟩
        refine tI ?_
        refine ⟨b5, ?_⟩
        refine ⟨fun b6 => ?_, fun b6 => ?_⟩
        · rw [if_pos (beq_t b6)] at h
          refine ⟨T, T, T, T, T, T, T, ?_⟩
          obtain rfl := oi h
          exact ⟨⟨T, T⟩, ⟨T, T⟩, rfl, rfl⟩
        · rw [if_neg (beq_f b6)] at h
          refine ⟨T, T, T, T, T, ?_⟩
          obtain rfl := oi h
          exact ⟨⟨T, T⟩, ⟨T, T⟩, rfl, rfl⟩
      · rw [if_pos (beq_t b5)] at h
        refine ⟨b5, ?_⟩
        refine ⟨b5, ?_⟩
        refine ⟨rfl, T, T, T, T, T, T, T, ?_⟩
        obtain rfl := oi h
        exact ⟨⟨T, T⟩, ⟨T, T⟩, rfl, rfl⟩
/-! halter/proc.Letter -/
def proc_Letter.f (a0 : Int) (a1 : Int) (a2 : ByteArray) (a3 : (List Int)) (a4 : Int) (a5 : Int) (a6 : (List Int)) (a7 : (List Int)) (a8 : Int) (a9 : Int) (a10 : (List Int)) (a11 : Int) (a12 : Bool) (a13 : Int) (a14 : Int) (a15 : Int) (a16 : Bool) (a17 : Bool) (a18 : Bool) (a19 : Int) (a20 : Int) (a21 : Bool) : Option Int :=
  if a21 = true then
    some (90 : Int)
  else
    if a12 = true then
      some (116 : Int)
    else
      if a17 = true then
        some (84 : Int)
      else
        if ¬ a19 = (0 : Int) then
          some (83 : Int)
        else
          some (82 : Int)
def proc_Letter.R (r : Int) : Tm := vi .u8 r
theorem proc_Letter.fun_ {a0 : Int} {a1 : Int} {a2 : ByteArray} {a3 : (List Int)} {a4 : Int} {a5 : Int} {a6 : (List Int)} {a7 : (List Int)} {a8 : Int} {a9 : Int} {a10 : (List Int)} {a11 : Int} {a12 : Bool} {a13 : Int} {a14 : Int} {a15 : Int} {a16 : Bool} {a17 : Bool} {a18 : Bool} {a19 : Int} {a20 : Int} {a21 : Bool} {r : Int} (h : proc_Letter.f a0 a1 a2 a3 a4 a5 a6 a7 a8 a9 a10 a11 a12 a13 a14 a15 a16 a17 a18 a19 a20 a21 = some r) : Fun cfg 17 [.agg [.c (.sc (.int .i64 a0)), .c (.sc (.int .i64 a1)), .c (.sc (.string a2)), .row 16 (.int .u32) a3, .c (.sc (.int .u32 a4)), .c (.sc (.int .u32 a5)), .row 4 (.int .u64) a6, .row 8 (.int .i64) a7, .c (.sc (.int .u32 a8)), .c (.sc (.int .u32 a9)), .row 32 (.int .u32) a10, .c (.sc (.int .i64 a11)), .c (.sc (.bool a12)), .c (.sc (.int .u32 a13)), .c (.sc (.int .i64 a14)), .c (.sc (.int .i64 a15)), .c (.sc (.bool a16)), .c (.sc (.bool a17)), .c (.sc (.bool a18)), .c (.sc (.int .i64 a19)), .c (.sc (.int .i64 a20))], .one (.sc (.bool a21))] [] (proc_Letter.R r) [] := by
  unfold proc_Letter.f at h
  refine fun_of_run cfg_ok (f := 17) (fn := Tryz.f17) Tryz.func17 rfl (by kernel_rfl) (rs := [.tmp 4]) rfl (nt := 18) rfl (l := fin) (k := (.br (aE 2 (.adj [.drop 0] .nil)) (.br (aE 2 (.adj [.drop 0] .nil)) (.br (aE 2 (.adj [.drop 0] .nil)) (.br (aE 2 (.adj [.drop 0] .nil)) (aE 3 (.adj [.drop 0] .nil))))))) (to_goal (q := ((a21 = true → (U ∧ (U ∧ ((U) ∧ ((U) ∧ U) ∧ (vi .u8 (90 : Int) : Tm) = proc_Letter.R r ∧ ([] : List Box) = [])))) ∧ (a21 = false → (U) ∧ ((a12 = true → (U ∧ (U ∧ ((U) ∧ ((U) ∧ U) ∧ (vi .u8 (116 : Int) : Tm) = proc_Letter.R r ∧ ([] : List Box) = [])))) ∧ (a12 = false → (U) ∧ ((a17 = true → (U ∧ (U ∧ ((U) ∧ ((U) ∧ U) ∧ (vi .u8 (84 : Int) : Tm) = proc_Letter.R r ∧ ([] : List Box) = [])))) ∧ (a17 = false → (U) ∧ (U) ∧ (((a19 != (0 : Int)) = true → (U ∧ (U ∧ ((U) ∧ ((U) ∧ U) ∧ (vi .u8 (83 : Int) : Tm) = proc_Letter.R r ∧ ([] : List Box) = [])))) ∧ ((a19 != (0 : Int)) = false → (U ∧ (U ∧ (U ∧ ((U) ∧ ((U) ∧ U) ∧ (vi .u8 (82 : Int) : Tm) = proc_Letter.R r ∧ ([] : List Box) = []))))))))))))) (by kernel_rfl) ?_)
  refine ⟨fun b1 => ?_, fun b1 => ?_⟩
  · rw [if_pos b1] at h
    refine ⟨T, T, ?_⟩
    obtain rfl := oi h
    exact ⟨T, ⟨T, T⟩, rfl, rfl⟩
  · rw [if_neg (ff b1)] at h
    refine tI ?_
    refine ⟨fun b2 => ?_, fun b2 => ?_⟩
    · rw [if_pos b2] at h
      refine ⟨T, T, ?_⟩
      obtain rfl := oi h
      exact ⟨T, ⟨T, T⟩, rfl, rfl⟩
    · rw [if_neg (ff b2)] at h
      refine tI ?_
      refine ⟨fun b3 => ?_, fun b3 => ?_⟩
      · rw [if_pos b3] at h
        refine ⟨T, T, ?_⟩
        obtain rfl := oi h
        exact ⟨T, ⟨T, T⟩, rfl, rfl⟩
      · rw [if_neg (ff b3)] at h
        refine ⟨T, T, ?_⟩
        refine ⟨fun b4 => ?_, fun b4 => ?_⟩
        · rw [if_pos (bne_t b4)] at h
          refine ⟨T, T, ?_⟩
          obtain rfl := oi h
          exact ⟨T, ⟨T, T⟩, rfl, rfl⟩
        · rw [if_neg (not_not_intro (bne_f b4))] at h
          refine ⟨T, T, T, ?_⟩
          obtain rfl := oi h
          exact ⟨T, ⟨T, T⟩, rfl, rfl⟩
/-! halter/proc.Runs -/
def proc_Runs.f (a0 : Int) (a1 : Int) (a2 : ByteArray) (a3 : (List Int)) (a4 : Int) (a5 : Int) (a6 : (List Int)) (a7 : (List Int)) (a8 : Int) (a9 : Int) (a10 : (List Int)) (a11 : Int) (a12 : Bool) (a13 : Int) (a14 : Int) (a15 : Int) (a16 : Bool) (a17 : Bool) (a18 : Bool) (a19 : Int) (a20 : Int) : Option Bool :=
  if ¬ (a12 = true) then
    some (!a17)
  else
    some false
def proc_Runs.R (r : Bool) : Tm := .v (.one (.sc (.bool r)))
theorem proc_Runs.fun_ {a0 : Int} {a1 : Int} {a2 : ByteArray} {a3 : (List Int)} {a4 : Int} {a5 : Int} {a6 : (List Int)} {a7 : (List Int)} {a8 : Int} {a9 : Int} {a10 : (List Int)} {a11 : Int} {a12 : Bool} {a13 : Int} {a14 : Int} {a15 : Int} {a16 : Bool} {a17 : Bool} {a18 : Bool} {a19 : Int} {a20 : Int} {r : Bool} (h : proc_Runs.f a0 a1 a2 a3 a4 a5 a6 a7 a8 a9 a10 a11 a12 a13 a14 a15 a16 a17 a18 a19 a20 = some r) : Fun cfg 19 [.agg [.c (.sc (.int .i64 a0)), .c (.sc (.int .i64 a1)), .c (.sc (.string a2)), .row 16 (.int .u32) a3, .c (.sc (.int .u32 a4)), .c (.sc (.int .u32 a5)), .row 4 (.int .u64) a6, .row 8 (.int .i64) a7, .c (.sc (.int .u32 a8)), .c (.sc (.int .u32 a9)), .row 32 (.int .u32) a10, .c (.sc (.int .i64 a11)), .c (.sc (.bool a12)), .c (.sc (.int .u32 a13)), .c (.sc (.int .i64 a14)), .c (.sc (.int .i64 a15)), .c (.sc (.bool a16)), .c (.sc (.bool a17)), .c (.sc (.bool a18)), .c (.sc (.int .i64 a19)), .c (.sc (.int .i64 a20))]] [] (proc_Runs.R r) [] := by
  unfold proc_Runs.f at h
  refine fun_of_run cfg_ok (f := 19) (fn := Tryz.f19) Tryz.func19 rfl (by kernel_rfl) (rs := [.tmp 2]) rfl (nt := 12) rfl (l := fin) (k := (.br (oT 3 (.adj [] (.adj [.drop 0] .nil))) (oF 3 (.adj [] (.adj [.drop 0] .nil))))) (to_goal (q := (U) ∧ (((!a12) = true → ((!a12) = true ∧ (U) ∧ ((!a12) = true ∧ ((!a12) = true ∧ (U ∧ ((U) ∧ ((U) ∧ U) ∧ (.v (.one (.sc (.bool (!a17)))) : Tm) = proc_Runs.R r ∧ ([] : List Box) = [])))))) ∧ ((!a12) = false → ((!a12) = false ∧ ((!a12) = false ∧ ((!a12) = false ∧ (U ∧ ((U) ∧ ((U) ∧ U) ∧ (.v (.one (.sc (.bool false))) : Tm) = proc_Runs.R r ∧ ([] : List Box) = [])))))))) (by kernel_rfl) ?_)
  refine tI ?_
  refine ⟨fun b1 => ?_, fun b1 => ?_⟩
  · rw [if_pos (ff (not_t b1))] at h
    refine ⟨b1, ?_⟩
    refine tI ?_
    refine ⟨b1, ?_⟩
    refine ⟨b1, ?_⟩
    refine tI ?_
    obtain rfl := oi h
    exact ⟨T, ⟨T, T⟩, rfl, rfl⟩
  · rw [if_neg (not_not_intro (not_f b1))] at h
    refine ⟨b1, ?_⟩
    refine ⟨b1, ?_⟩
    refine ⟨b1, ?_⟩
    refine tI ?_
    obtain rfl := oi h
    exact ⟨T, ⟨T, T⟩, rfl, rfl⟩
/-! math/bits.TrailingZeros32 -/
def math_bits_TrailingZeros32.f (a0 : Int) : Option Int :=
  if a0 = (0 : Int) then
    some (32 : Int)
  else
    if 0 ≤ (shr .u32 (IntKind.wrap .u32 ((bits .and .u32 a0 (IntKind.wrap .u32 (0 - a0))) * (125613361 : Int))) (27 : Int)) ∧ (shr .u32 (IntKind.wrap .u32 ((bits .and .u32 a0 (IntKind.wrap .u32 (0 - a0))) * (125613361 : Int))) (27 : Int)) < ((32 : Nat) : Int) then
      some (IntKind.wrap .i64 ((List.getD tab1 (Int.toNat (shr .u32 (IntKind.wrap .u32 ((bits .and .u32 a0 (IntKind.wrap .u32 (0 - a0))) * (125613361 : Int))) (27 : Int))) (0 : Int))))
    else none
def math_bits_TrailingZeros32.R (r : Int) : Tm := vi .i64 r
theorem math_bits_TrailingZeros32.fun_ {a0 : Int} {r : Int} (h : math_bits_TrailingZeros32.f a0 = some r) : Fun cfg 64 [.one (.sc (.int .u32 a0))] [] (math_bits_TrailingZeros32.R r) [] := by
  unfold math_bits_TrailingZeros32.f at h
  refine fun_of_run cfg_ok (f := 64) (fn := Tryz.f64) Tryz.func64 rfl (by kernel_rfl) (rs := [.tmp 2]) rfl (nt := 14) rfl (l := fin) (k := (.br (aE 3 .nil) (aE 4 .nil))) (to_goal (q := (U) ∧ (((a0 == (0 : Int)) = true → (U ∧ (U ∧ ((U) ∧ (U) ∧ (vi .i64 (32 : Int) : Tm) = math_bits_TrailingZeros32.R r ∧ ([] : List Box) = [])))) ∧ ((a0 == (0 : Int)) = false → (U ∧ (U ∧ (U) ∧ (U) ∧ (0 ≤ (27 : Int)) ∧ (0 ≤ (shr .u32 (IntKind.wrap .u32 ((bits .and .u32 a0 (IntKind.wrap .u32 (0 - a0))) * (125613361 : Int))) (27 : Int)) ∧ (shr .u32 (IntKind.wrap .u32 ((bits .and .u32 a0 (IntKind.wrap .u32 (0 - a0))) * (125613361 : Int))) (27 : Int)) < ((32 : Nat) : Int)) ∧ (U) ∧ (U) ∧ (U ∧ ((U) ∧ (U) ∧ (vi .i64 (IntKind.wrap .i64 ((List.getD tab1 (Int.toNat (shr .u32 (IntKind.wrap .u32 ((bits .and .u32 a0 (IntKind.wrap .u32 (0 - a0))) * (125613361 : Int))) (27 : Int))) (0 : Int)))) : Tm) = math_bits_TrailingZeros32.R r ∧ ([] : List Box) = []))))))) (by kernel_rfl) ?_)
  refine tI ?_
  refine ⟨fun b1 => ?_, fun b1 => ?_⟩
  · rw [if_pos (beq_t b1)] at h
    refine ⟨T, T, ?_⟩
    obtain rfl := oi h
    exact ⟨T, T, rfl, rfl⟩
  · rw [if_neg (beq_f b1)] at h
    refine ⟨T, T, T, T, ?_⟩
    refine ⟨(by decide), ?_⟩
    obtain ⟨g2, h⟩ := of_guard h
    refine ⟨g2, ?_⟩
    refine ⟨T, T, T, ?_⟩
    obtain rfl := oi h
    exact ⟨T, T, rfl, rfl⟩
/-! halter/sigset.First -/
def sigset_First.f (a0 : Int) : Option Int :=
  if (bits .and .u32 a0 (2147483647 : Int)) = (0 : Int) then
    some (0 : Int)
  else
    (math_bits_TrailingZeros32.f a0).bind fun t2 =>
    some (IntKind.wrap .i64 (t2 + (1 : Int)))
def sigset_First.R (r : Int) : Tm := vi .i64 r
theorem sigset_First.fun_ {a0 : Int} {r : Int} (h : sigset_First.f a0 = some r) : Fun cfg 45 [.one (.sc (.int .u32 a0))] [] (sigset_First.R r) [] := by
  unfold sigset_First.f at h
  refine fun_of_run cfg_ok (f := 45) (fn := Tryz.f45) Tryz.func45 rfl (by kernel_rfl) (rs := [.tmp 2]) rfl (nt := 9) rfl (l := fin) (k := (.br (aE 3 .nil) (.call true [] (Int) math_bits_TrailingZeros32.R (fun t2 => (aE 2 .nil))))) (to_goal (q := (U) ∧ (U) ∧ ((((bits .and .u32 a0 (2147483647 : Int)) == (0 : Int)) = true → (U ∧ (U ∧ ((U) ∧ (U) ∧ (vi .i64 (0 : Int) : Tm) = sigset_First.R r ∧ ([] : List Box) = [])))) ∧ (((bits .and .u32 a0 (2147483647 : Int)) == (0 : Int)) = false → (∃ t2 : Int, (Fun cfg 64 [.one (.sc (.int .u32 a0))] [] (math_bits_TrailingZeros32.R t2) [] ∧ U) ∧ (U) ∧ (U ∧ ((U) ∧ (U) ∧ (vi .i64 (IntKind.wrap .i64 (t2 + (1 : Int))) : Tm) = sigset_First.R r ∧ ([] : List Box) = [])))))) (by kernel_rfl) ?_)
  refine ⟨T, T, ?_⟩
  refine ⟨fun b1 => ?_, fun b1 => ?_⟩
  · rw [if_pos (beq_t b1)] at h
    refine ⟨T, T, ?_⟩
    obtain rfl := oi h
    exact ⟨T, T, rfl, rfl⟩
  · rw [if_neg (beq_f b1)] at h
    obtain ⟨t2, ht2, h⟩ := of_bind h
    refine ⟨t2, ⟨math_bits_TrailingZeros32.fun_ ht2, T⟩, ?_⟩
    refine ⟨T, T, ?_⟩
    obtain rfl := oi h
    exact ⟨T, T, rfl, rfl⟩
/-! halter/sig.Next -/
def sig_Next.l0 (a0 : Int) (a1 : Int) (a2 : (List Int)) : Nat → Int → Option ((Unit) ⊕ (Int))
  | 0, _ => none
  | n + 1, x1 =>
    if x1 < (2 : Int) then
      if 0 ≤ x1 ∧ x1 < ((2 : Nat) : Int) then
        (sigset_Has.f a0 (List.getD [(9 : Int), (19 : Int)] (Int.toNat x1) (0 : Int))).bind fun t9 =>
        if t9 = true then
          some (.inr (List.getD [(9 : Int), (19 : Int)] (Int.toNat x1) (0 : Int)))
        else
          sig_Next.l0 a0 a1 a2 n (IntKind.wrap .i64 (x1 + (1 : Int)))
      else none
    else
      some (.inl ())
def sig_Next.l0_S (a0 : Int) (a1 : Int) (a2 : (List Int)) (x1 : Int) : St := ⟨[A, .v (.one (.ptr 0 ⟨0, 0, 0, 0⟩)), A, A, A, .v (.agg [.row 2 (.int .i64) [(9 : Int), (19 : Int)]]), vi .i64 x1, A, A, A, A, A, A, A, A, A, A, A, A, A, A], [.ex false [.c (.sc (.int .u32 a0)), .c (.sc (.int .u32 a1)), .row 32 (.int .u32) a2] 43], 0⟩
def sig_Next.l0_Q (a0 : Int) (a1 : Int) (a2 : (List Int)) : (Unit) ⊕ (Int) → Exit → St → Prop
  | .inl t => fun e s => e = (.exit 0) ∧ s = ⟨[A, .v (.one (.ptr 0 ⟨0, 0, 0, 0⟩)), A, A, A, A, A, A, A, A, A, A, A, A, A, A, A, A, A, A, A], [.ex false [.c (.sc (.int .u32 a0)), .c (.sc (.int .u32 a1)), .row 32 (.int .u32) a2] 43], 0⟩
  | .inr t => fun e s => e = .ret ∧ s = ⟨[A, A, vi .i64 t, A, A, A, A, A, A, A, A, A, A, A, A, A, A, A, A, A, A], [.ex false [.c (.sc (.int .u32 a0)), .c (.sc (.int .u32 a1)), .row 32 (.int .u32) a2] 43], 0⟩
theorem sig_Next.l0_ok (a0 : Int) (a1 : Int) (a2 : (List Int)) : ∀ (n : Nat) (x1 : Int) (r : (Unit) ⊕ (Int)), sig_Next.l0 a0 a1 a2 n x1 = some r → TripN cfg (cpath (Tryz.f22.body.getD .skip) [1, 0, 1, 0, 0]) n (sig_Next.l0_S a0 a1 a2 x1) (sig_Next.l0_Q a0 a1 a2 r) := by
  intro n
  induction n with
  | zero => intro x1 r h; cases h
  | succ n ih =>
    intro x1 r h
    rw [sig_Next.l0] at h
    refine TripN.of_run cfg_ok (k := (.br (.call true [] (Bool) sigset_Has.R (fun t9 => (.br (.adj [] (.adj [.keep [2], .drop 1] .nil)) (aE 2 (.adj [.keep [1, 5, 6], .drop 1] .nil))))) (.adj [.keep [1], .drop 1] .nil))) (to_goal (q := (U) ∧ (((decide (x1 < (2 : Int))) = true → (0 ≤ x1 ∧ x1 < ((2 : Nat) : Int)) ∧ (U) ∧ (∃ t9 : Bool, (Fun cfg 44 [.one (.sc (.int .u32 a0)), .one (.sc (.int .i64 (List.getD [(9 : Int), (19 : Int)] (Int.toNat x1) (0 : Int))))] [] (sigset_Has.R t9) [] ∧ U) ∧ ((t9 = true → (U ∧ (((U) ∧ (U) ∧ U) ∧ sig_Next.l0_Q a0 a1 a2 r .ret ⟨[A, A, vi .i64 (List.getD [(9 : Int), (19 : Int)] (Int.toNat x1) (0 : Int)), A, A, A, A, A, A, A, A, A, A, A, A, A, A, A, A, A, A], [.ex false [.c (.sc (.int .u32 a0)), .c (.sc (.int .u32 a1)), .row 32 (.int .u32) a2] 43], 0⟩))) ∧ (t9 = false → (U ∧ (U ∧ (U) ∧ (((U) ∧ (U) ∧ U) ∧ TripN cfg (cpath (Tryz.f22.body.getD .skip) [1, 0, 1, 0, 0]) n (sig_Next.l0_S a0 a1 a2 (IntKind.wrap .i64 (x1 + (1 : Int)))) (sig_Next.l0_Q a0 a1 a2 r)))))))) ∧ ((decide (x1 < (2 : Int))) = false → (((U) ∧ (U) ∧ U) ∧ sig_Next.l0_Q a0 a1 a2 r (.exit 0) ⟨[A, .v (.one (.ptr 0 ⟨0, 0, 0, 0⟩)), A, A, A, A, A, A, A, A, A, A, A, A, A, A, A, A, A, A, A], [.ex false [.c (.sc (.int .u32 a0)), .c (.sc (.int .u32 a1)), .row 32 (.int .u32) a2] 43], 0⟩)))) (by kernel_rfl) ?_)
    refine tI ?_
    refine ⟨fun b8 => ?_, fun b8 => ?_⟩
    · rw [if_pos (dT_ b8)] at h
      obtain ⟨g11, h⟩ := of_guard h
      refine ⟨g11, ?_⟩
      refine tI ?_
      obtain ⟨t9, ht9, h⟩ := of_bind h
      refine ⟨t9, ⟨sigset_Has.fun_ ht9, T⟩, ?_⟩
      refine ⟨fun b10 => ?_, fun b10 => ?_⟩
      · rw [if_pos b10] at h
        refine tI ?_
        obtain rfl := oi h
        exact ⟨⟨T, T, T⟩, rfl, rfl⟩
      · rw [if_neg (ff b10)] at h
        refine ⟨T, T, T, ?_⟩
        exact ⟨⟨T, T, T⟩, ih (IntKind.wrap .i64 (x1 + (1 : Int))) r h⟩
    · rw [if_neg (dF_ b8)] at h
      obtain rfl := oi h
      exact ⟨⟨T, T, T⟩, rfl, rfl⟩
def sig_Next.f (a0 : Int) (a1 : Int) (a2 : (List Int)) : Option Int :=
  (sig_Next.l0 a0 a1 a2 FUEL (0 : Int)).bind fun t7 =>
  match t7 with
  | .inl t13 =>
    (sigset_First.f (bits .andNot .u32 a0 a1)).bind fun t14 =>
    some t14
  | .inr t15 =>
    some t15
def sig_Next.R (r : Int) : Tm := vi .i64 r
theorem sig_Next.fun_ {a0 : Int} {a1 : Int} {a2 : (List Int)} {r : Int} (h : sig_Next.f a0 a1 a2 = some r) : Fun cfg 22 [.agg [.c (.sc (.int .u32 a0)), .c (.sc (.int .u32 a1)), .row 32 (.int .u32) a2]] [] (sig_Next.R r) [] := by
  unfold sig_Next.f at h
  refine fun_of_run cfg_ok (f := 22) (fn := Tryz.f22) Tryz.func22 rfl (by kernel_rfl) (rs := [.tmp 2]) rfl (nt := 21) rfl (l := fin) (k := (aE 3 (.adj [.keep [1, 5, 6]] (.alt (.sub (Unit) (fun _ => (.exit 0)) (fun t13 => ⟨[A, .v (.one (.ptr 0 ⟨0, 0, 0, 0⟩)), A, A, A, A, A, A, A, A, A, A, A, A, A, A, A, A, A, A, A], [.ex false [.c (.sc (.int .u32 a0)), .c (.sc (.int .u32 a1)), .row 32 (.int .u32) a2] 43], 0⟩) (fun t13 => (.call true [] (Int) sigset_First.R (fun t14 => (.adj [] (.adj [.drop 0] .nil)))))) (.sub (Int) (fun _ => .ret) (fun t15 => ⟨[A, A, vi .i64 t15, A, A, A, A, A, A, A, A, A, A, A, A, A, A, A, A, A, A], [.ex false [.c (.sc (.int .u32 a0)), .c (.sc (.int .u32 a1)), .row 32 (.int .u32) a2] 43], 0⟩) (fun t15 => (.adj [.drop 0] .nil))))))) (to_goal (q := (U ∧ (U ∧ (U ∧ (((U) ∧ U) ∧ ((∃ t13 : Unit, Trip cfg (.loop (cpath (Tryz.f22.body.getD .skip) [1, 0, 1, 0, 0])) ⟨[A, .v (.one (.ptr 0 ⟨0, 0, 0, 0⟩)), A, A, A, .v (.agg [.row 2 (.int .i64) [(9 : Int), (19 : Int)]]), vi .i64 (0 : Int), A, A, A, A, A, A, A, A, A, A, A, A, A, A], [.ex false [.c (.sc (.int .u32 a0)), .c (.sc (.int .u32 a1)), .row 32 (.int .u32) a2] 43], 0⟩ (fun e s => e = (.exit 0) ∧ s = ⟨[A, .v (.one (.ptr 0 ⟨0, 0, 0, 0⟩)), A, A, A, A, A, A, A, A, A, A, A, A, A, A, A, A, A, A, A], [.ex false [.c (.sc (.int .u32 a0)), .c (.sc (.int .u32 a1)), .row 32 (.int .u32) a2] 43], 0⟩) ∧ (U) ∧ (U) ∧ (U) ∧ (∃ t14 : Int, (Fun cfg 45 [.one (.sc (.int .u32 (bits .andNot .u32 a0 a1)))] [] (sigset_First.R t14) [] ∧ U) ∧ (U ∧ ((U) ∧ ((U) ∧ U) ∧ (vi .i64 t14 : Tm) = sig_Next.R r ∧ ([] : List Box) = [])))) ∨ (∃ t15 : Int, Trip cfg (.loop (cpath (Tryz.f22.body.getD .skip) [1, 0, 1, 0, 0])) ⟨[A, .v (.one (.ptr 0 ⟨0, 0, 0, 0⟩)), A, A, A, .v (.agg [.row 2 (.int .i64) [(9 : Int), (19 : Int)]]), vi .i64 (0 : Int), A, A, A, A, A, A, A, A, A, A, A, A, A, A], [.ex false [.c (.sc (.int .u32 a0)), .c (.sc (.int .u32 a1)), .row 32 (.int .u32) a2] 43], 0⟩ (fun e s => e = .ret ∧ s = ⟨[A, A, vi .i64 t15, A, A, A, A, A, A, A, A, A, A, A, A, A, A, A, A, A, A], [.ex false [.c (.sc (.int .u32 a0)), .c (.sc (.int .u32 a1)), .row 32 (.int .u32) a2] 43], 0⟩) ∧ ((U) ∧ ((U) ∧ U) ∧ (vi .i64 t15 : Tm) = sig_Next.R r ∧ ([] : List Box) = [])))))))) (by kernel_rfl) ?_)
  refine ⟨T, T, T, ?_⟩
  obtain ⟨t7, ht7, h⟩ := of_bind h
  refine ⟨⟨T, T⟩, ?_⟩
  rcases t7 with t13 | t15
  · dsimp only at h
    left
    refine ⟨t13, Trip.loop FUEL (sig_Next.l0_ok a0 a1 a2 FUEL (0 : Int) (.inl t13) ht7), ?_⟩
    refine ⟨T, T, T, ?_⟩
    obtain ⟨t14, ht14, h⟩ := of_bind h
    refine ⟨t14, ⟨sigset_First.fun_ ht14, T⟩, ?_⟩
    refine tI ?_
    obtain rfl := oi h
    exact ⟨T, ⟨T, T⟩, rfl, rfl⟩
  · dsimp only at h
    right
    refine ⟨t15, Trip.loop FUEL (sig_Next.l0_ok a0 a1 a2 FUEL (0 : Int) (.inr t15) ht7), ?_⟩
    obtain rfl := oi h
    exact ⟨T, ⟨T, T⟩, rfl, rfl⟩
/-! halter/halterlaw33.sure -/
def halterlaw33_sure.c0 (t1 : TY1) : AV := .agg [.c (.sc (.int .i64 t1.1)), .c (.sc (.int .i64 t1.2.1)), .c (.sc (.string (p2 t1))), .row 16 (.int .u32) (p3 t1), .c (.sc (.int .u32 (p4 t1))), .c (.sc (.int .u32 (p5 t1))), .row 4 (.int .u64) (p6 t1), .row 8 (.int .i64) (p7 t1), .c (.sc (.int .u32 (p8 t1))), .c (.sc (.int .u32 (p9 t1))), .row 32 (.int .u32) (p10 t1), .c (.sc (.int .i64 (p11 t1))), .c (.sc (.bool (p12 t1))), .c (.sc (.int .u32 (p13 t1))), .c (.sc (.int .i64 (p14 t1))), .c (.sc (.int .i64 (p15 t1))), .c (.sc (.bool (p16 t1))), .c (.sc (.bool (p17 t1))), .c (.sc (.bool (p18 t1))), .c (.sc (.int .i64 (p19 t1))), .c (.sc (.int .i64 (p20 t1)))]
def halterlaw33_sure.f : Option Bool :=
  (proc_First.f (1 : Int) (⟨#[105, 110, 105, 116]⟩ : ByteArray) (256 : Int)).bind fun t1 =>
  (proc_Answer.f t1.1 t1.2.1 t1.2.2.1 t1.2.2.2.1 t1.2.2.2.2.1 t1.2.2.2.2.2.1 t1.2.2.2.2.2.2.1 t1.2.2.2.2.2.2.2.1 t1.2.2.2.2.2.2.2.2.1 t1.2.2.2.2.2.2.2.2.2.1 t1.2.2.2.2.2.2.2.2.2.2.1 t1.2.2.2.2.2.2.2.2.2.2.2.1 t1.2.2.2.2.2.2.2.2.2.2.2.2.1 t1.2.2.2.2.2.2.2.2.2.2.2.2.2.1 t1.2.2.2.2.2.2.2.2.2.2.2.2.2.2.1 t1.2.2.2.2.2.2.2.2.2.2.2.2.2.2.2.1 t1.2.2.2.2.2.2.2.2.2.2.2.2.2.2.2.2.1 t1.2.2.2.2.2.2.2.2.2.2.2.2.2.2.2.2.2.1 t1.2.2.2.2.2.2.2.2.2.2.2.2.2.2.2.2.2.2.1 t1.2.2.2.2.2.2.2.2.2.2.2.2.2.2.2.2.2.2.2.1 t1.2.2.2.2.2.2.2.2.2.2.2.2.2.2.2.2.2.2.2.2.1 (7 : Int)).bind fun t2 =>
  (proc_Child.f t2.1 t2.2.1 t2.2.2.1 t2.2.2.2.1 t2.2.2.2.2.1 t2.2.2.2.2.2.1 t2.2.2.2.2.2.2.1 t2.2.2.2.2.2.2.2.1 t2.2.2.2.2.2.2.2.2.1 t2.2.2.2.2.2.2.2.2.2.1 t2.2.2.2.2.2.2.2.2.2.2.1 t2.2.2.2.2.2.2.2.2.2.2.2.1 t2.2.2.2.2.2.2.2.2.2.2.2.2.1 t2.2.2.2.2.2.2.2.2.2.2.2.2.2.1 t2.2.2.2.2.2.2.2.2.2.2.2.2.2.2.1 t2.2.2.2.2.2.2.2.2.2.2.2.2.2.2.2.1 t2.2.2.2.2.2.2.2.2.2.2.2.2.2.2.2.2.1 t2.2.2.2.2.2.2.2.2.2.2.2.2.2.2.2.2.2.1 t2.2.2.2.2.2.2.2.2.2.2.2.2.2.2.2.2.2.2.1 t2.2.2.2.2.2.2.2.2.2.2.2.2.2.2.2.2.2.2.2.1 t2.2.2.2.2.2.2.2.2.2.2.2.2.2.2.2.2.2.2.2.2 (2 : Int)).bind fun t3 =>
  (proc_Post.f t3.1 t3.2.1 t3.2.2.1 t3.2.2.2.1 t3.2.2.2.2.1 t3.2.2.2.2.2.1 t3.2.2.2.2.2.2.1 t3.2.2.2.2.2.2.2.1 t3.2.2.2.2.2.2.2.2.1 t3.2.2.2.2.2.2.2.2.2.1 t3.2.2.2.2.2.2.2.2.2.2.1 t3.2.2.2.2.2.2.2.2.2.2.2.1 t3.2.2.2.2.2.2.2.2.2.2.2.2.1 t3.2.2.2.2.2.2.2.2.2.2.2.2.2.1 t3.2.2.2.2.2.2.2.2.2.2.2.2.2.2.1 t3.2.2.2.2.2.2.2.2.2.2.2.2.2.2.2.1 t3.2.2.2.2.2.2.2.2.2.2.2.2.2.2.2.2.1 t3.2.2.2.2.2.2.2.2.2.2.2.2.2.2.2.2.2.1 t3.2.2.2.2.2.2.2.2.2.2.2.2.2.2.2.2.2.2.1 t3.2.2.2.2.2.2.2.2.2.2.2.2.2.2.2.2.2.2.2.1 t3.2.2.2.2.2.2.2.2.2.2.2.2.2.2.2.2.2.2.2.2.1 (9 : Int)).bind fun t4 =>
  (proc_First.f (0 : Int) (⟨#[105, 110, 105, 116]⟩ : ByteArray) (0 : Int)).bind fun t5 =>
  if t1.2.2.2.2.2.2.2.2.2.2.2.2.2.2.2.2.2.2.2.2.2 = none then
    if t3.2.2.2.2.2.2.2.2.2.2.2.2.2.2.2.2.2.2.2.2.2 = none then
      if t4.2.2.2.2.2.2.2.2.2.2.2.2.2.2.2.2.2.2.2.2.2 = none then
        (num.f t5.2.2.2.2.2.2.2.2.2.2.2.2.2.2.2.2.2.2.2.2.2).bind fun t9 =>
        if t9 = (22 : Int) then
          if t1.2.2.2.2.1 = (256 : Int) then
            if (List.getD t1.2.2.2.1 13 (0 : Int)) = (1048576 : Int) then
              (proc_Letter.f t1.1 t1.2.1 t1.2.2.1 t1.2.2.2.1 t1.2.2.2.2.1 t1.2.2.2.2.2.1 t1.2.2.2.2.2.2.1 t1.2.2.2.2.2.2.2.1 t1.2.2.2.2.2.2.2.2.1 t1.2.2.2.2.2.2.2.2.2.1 t1.2.2.2.2.2.2.2.2.2.2.1 t1.2.2.2.2.2.2.2.2.2.2.2.1 t1.2.2.2.2.2.2.2.2.2.2.2.2.1 t1.2.2.2.2.2.2.2.2.2.2.2.2.2.1 t1.2.2.2.2.2.2.2.2.2.2.2.2.2.2.1 t1.2.2.2.2.2.2.2.2.2.2.2.2.2.2.2.1 t1.2.2.2.2.2.2.2.2.2.2.2.2.2.2.2.2.1 t1.2.2.2.2.2.2.2.2.2.2.2.2.2.2.2.2.2.1 t1.2.2.2.2.2.2.2.2.2.2.2.2.2.2.2.2.2.2.1 t1.2.2.2.2.2.2.2.2.2.2.2.2.2.2.2.2.2.2.2.1 t1.2.2.2.2.2.2.2.2.2.2.2.2.2.2.2.2.2.2.2.2.1 false).bind fun t13 =>
              if t13 = (82 : Int) then
                (proc_Runs.f t1.1 t1.2.1 t1.2.2.1 t1.2.2.2.1 t1.2.2.2.2.1 t1.2.2.2.2.2.1 t1.2.2.2.2.2.2.1 t1.2.2.2.2.2.2.2.1 t1.2.2.2.2.2.2.2.2.1 t1.2.2.2.2.2.2.2.2.2.1 t1.2.2.2.2.2.2.2.2.2.2.1 t1.2.2.2.2.2.2.2.2.2.2.2.1 t1.2.2.2.2.2.2.2.2.2.2.2.2.1 t1.2.2.2.2.2.2.2.2.2.2.2.2.2.1 t1.2.2.2.2.2.2.2.2.2.2.2.2.2.2.1 t1.2.2.2.2.2.2.2.2.2.2.2.2.2.2.2.1 t1.2.2.2.2.2.2.2.2.2.2.2.2.2.2.2.2.1 t1.2.2.2.2.2.2.2.2.2.2.2.2.2.2.2.2.2.1 t1.2.2.2.2.2.2.2.2.2.2.2.2.2.2.2.2.2.2.1 t1.2.2.2.2.2.2.2.2.2.2.2.2.2.2.2.2.2.2.2.1 t1.2.2.2.2.2.2.2.2.2.2.2.2.2.2.2.2.2.2.2.2.1).bind fun t15 =>
                if t15 = true then
                  if t3.1 = (2 : Int) then
                    if (List.getD t3.2.2.2.1 0 (0 : Int)) = (0 : Int) then
                      (sig_Next.f t4.2.2.2.2.2.2.2.2.1 t4.2.2.2.2.2.2.2.2.2.1 t4.2.2.2.2.2.2.2.2.2.2.1).bind fun t19 =>
                      some (t19 == (9 : Int))
                    else
                      some false
                  else
                    some false
                else
                  some false
              else
                some false
            else
              some false
          else
            some false
        else
          some false
      else
        some false
    else
      some false
  else
    some false
def halterlaw33_sure.R (r : Bool) : Tm := .v (.one (.sc (.bool r)))
theorem halterlaw33_sure.fun_ {r : Bool} (h : halterlaw33_sure.f = some r) : Fun cfg 4 [] [] (halterlaw33_sure.R r) [] := by
  unfold halterlaw33_sure.f at h
  refine fun_of_run cfg_ok (f := 4) (fn := Tryz.f4) Tryz.func4 rfl (by kernel_rfl) (rs := [.tmp 0]) rfl (nt := 83) rfl (l := fin) (k := (.call true [] (TY1) proc_First.R (fun t1 => (.call true [] (TY0) proc_Answer.R (fun t2 => (.call true [] (TY1) proc_Child.R (fun t3 => (.call true [] (TY1) proc_Post.R (fun t4 => (.call true [] (TY1) proc_First.R (fun t5 => (.br (oT 2 (.br (oT 2 (.br (.one true (.call true [] (Int) num.R (fun t9 => (oT 2 (.br (oT 4 (.br (oT 5 (.br (.one true (.call true [] (Int) proc_Letter.R (fun t13 => (oT 2 (.br (.one true (.call true [] (Bool) proc_Runs.R (fun t15 => (.one true (.br (oT 3 (.br (oT 5 (.br (oT 2 (.call true [] (Int) sig_Next.R (fun t19 => (oT 2 (.adj [] (.adj [.drop 0] .nil)))))) (oF 4 (.adj [] (.adj [.drop 0] .nil))))) (oF 10 (.adj [] (.adj [.drop 0] .nil))))) (oF 14 (.adj [] (.adj [.drop 0] .nil)))))))) (oF 17 (.adj [] (.adj [.drop 0] .nil)))))))) (oF 21 (.adj [] (.adj [.drop 0] .nil))))) (oF 27 (.adj [] (.adj [.drop 0] .nil))))) (oF 32 (.adj [] (.adj [.drop 0] .nil)))))))) (oF 36 (.adj [] (.adj [.drop 0] .nil))))) (oF 39 (.adj [] (.adj [.drop 0] .nil))))) (oF 42 (.adj [] (.adj [.drop 0] .nil))))))))))))))) (to_goal (q := (∃ t1 : TY1, (Fun cfg 12 [.one (.sc (.int .i64 (1 : Int))), .one (.sc (.string (⟨#[105, 110, 105, 116]⟩ : ByteArray))), .one (.sc (.int .u32 (256 : Int)))] [] (proc_First.R t1) [] ∧ U) ∧ (U) ∧ (U) ∧ (∃ t2 : TY0, (Fun cfg 15 [(halterlaw33_sure.c0 t1), .one (.sc (.int .u32 (7 : Int)))] [] (proc_Answer.R t2) [] ∧ U) ∧ (∃ t3 : TY1, (Fun cfg 6 [.agg [.c (.sc (.int .i64 t2.1)), .c (.sc (.int .i64 t2.2.1)), .c (.sc (.string (p2 t2))), .row 16 (.int .u32) (p3 t2), .c (.sc (.int .u32 (p4 t2))), .c (.sc (.int .u32 (p5 t2))), .row 4 (.int .u64) (p6 t2), .row 8 (.int .i64) (p7 t2), .c (.sc (.int .u32 (p8 t2))), .c (.sc (.int .u32 (p9 t2))), .row 32 (.int .u32) (p10 t2), .c (.sc (.int .i64 (p11 t2))), .c (.sc (.bool (p12 t2))), .c (.sc (.int .u32 (p13 t2))), .c (.sc (.int .i64 (p14 t2))), .c (.sc (.int .i64 (p15 t2))), .c (.sc (.bool (p16 t2))), .c (.sc (.bool (p17 t2))), .c (.sc (.bool (p18 t2))), .c (.sc (.int .i64 (p19 t2))), .c (.sc (.int .i64 (z20 t2)))], .one (.sc (.int .i64 (2 : Int)))] [] (proc_Child.R t3) [] ∧ U) ∧ (U) ∧ (U) ∧ (∃ t4 : TY1, (Fun cfg 10 [.agg [.c (.sc (.int .i64 t3.1)), .c (.sc (.int .i64 t3.2.1)), .c (.sc (.string (p2 t3))), .row 16 (.int .u32) (p3 t3), .c (.sc (.int .u32 (p4 t3))), .c (.sc (.int .u32 (p5 t3))), .row 4 (.int .u64) (p6 t3), .row 8 (.int .i64) (p7 t3), .c (.sc (.int .u32 (p8 t3))), .c (.sc (.int .u32 (p9 t3))), .row 32 (.int .u32) (p10 t3), .c (.sc (.int .i64 (p11 t3))), .c (.sc (.bool (p12 t3))), .c (.sc (.int .u32 (p13 t3))), .c (.sc (.int .i64 (p14 t3))), .c (.sc (.int .i64 (p15 t3))), .c (.sc (.bool (p16 t3))), .c (.sc (.bool (p17 t3))), .c (.sc (.bool (p18 t3))), .c (.sc (.int .i64 (p19 t3))), .c (.sc (.int .i64 (p20 t3)))], .one (.sc (.int .i64 (9 : Int)))] [] (proc_Post.R t4) [] ∧ U) ∧ (U) ∧ (∃ t5 : TY1, (Fun cfg 12 [.one (.sc (.int .i64 (0 : Int))), .one (.sc (.string (⟨#[105, 110, 105, 116]⟩ : ByteArray))), .one (.sc (.int .u32 (0 : Int)))] [] (proc_First.R t5) [] ∧ U) ∧ (U) ∧ (U) ∧ (((Option.isNone (z21 t1)) = true → ((Option.isNone (z21 t1)) = true ∧ (U) ∧ ((Option.isNone (z21 t1)) = true ∧ (((Option.isNone (z21 t3)) = true → ((Option.isNone (z21 t3)) = true ∧ (U) ∧ ((Option.isNone (z21 t3)) = true ∧ (((Option.isNone (z21 t4)) = true → ((Option.isNone (z21 t4)) = true ∧ (∃ t9 : Int, (Fun cfg 14 [.one (.err (z21 t5))] [] (num.R t9) [] ∧ U) ∧ ((Option.isNone (z21 t4)) = true ∧ (U) ∧ ((Option.isNone (z21 t4)) = true ∧ (((t9 == (22 : Int)) = true → ((t9 == (22 : Int)) = true ∧ ((t9 == (22 : Int)) = true ∧ (U) ∧ ((t9 == (22 : Int)) = true ∧ (U) ∧ ((t9 == (22 : Int)) = true ∧ ((((p4 t1) == (256 : Int)) = true → (((p4 t1) == (256 : Int)) = true ∧ (((p4 t1) == (256 : Int)) = true ∧ (0 ≤ (13 : Int) ∧ (13 : Int) < ((16 : Nat) : Int)) ∧ (((p4 t1) == (256 : Int)) = true ∧ (13 < 16) ∧ (((p4 t1) == (256 : Int)) = true ∧ (U) ∧ (((p4 t1) == (256 : Int)) = true ∧ ((((List.getD (p3 t1) 13 (0 : Int)) == (1048576 : Int)) = true → (U) ∧ (((List.getD (p3 t1) 13 (0 : Int)) == (1048576 : Int)) = true ∧ (∃ t13 : Int, (Fun cfg 17 [(halterlaw33_sure.c0 t1), .one (.sc (.bool false))] [] (proc_Letter.R t13) [] ∧ U) ∧ (((List.getD (p3 t1) 13 (0 : Int)) == (1048576 : Int)) = true ∧ (U) ∧ (((List.getD (p3 t1) 13 (0 : Int)) == (1048576 : Int)) = true ∧ (((t13 == (82 : Int)) = true → (U) ∧ ((t13 == (82 : Int)) = true ∧ (∃ t15 : Bool, (Fun cfg 19 [(halterlaw33_sure.c0 t1)] [] (proc_Runs.R t15) [] ∧ U) ∧ ((t13 == (82 : Int)) = true ∧ ((t15 = true → (t15 = true ∧ (U) ∧ (t15 = true ∧ (U) ∧ (t15 = true ∧ (((t3.1 == (2 : Int)) = true → ((t3.1 == (2 : Int)) = true ∧ ((t3.1 == (2 : Int)) = true ∧ (0 ≤ (0 : Int) ∧ (0 : Int) < ((16 : Nat) : Int)) ∧ ((t3.1 == (2 : Int)) = true ∧ (0 < 16) ∧ ((t3.1 == (2 : Int)) = true ∧ (U) ∧ ((t3.1 == (2 : Int)) = true ∧ ((((List.getD (p3 t3) 0 (0 : Int)) == (0 : Int)) = true → (((List.getD (p3 t3) 0 (0 : Int)) == (0 : Int)) = true ∧ (U) ∧ (((List.getD (p3 t3) 0 (0 : Int)) == (0 : Int)) = true ∧ (∃ t19 : Int, (Fun cfg 22 [.agg [.c (.sc (.int .u32 (p8 t4))), .c (.sc (.int .u32 (p9 t4))), .row 32 (.int .u32) (p10 t4)]] [] (sig_Next.R t19) [] ∧ U) ∧ (((List.getD (p3 t3) 0 (0 : Int)) == (0 : Int)) = true ∧ (U) ∧ (((List.getD (p3 t3) 0 (0 : Int)) == (0 : Int)) = true ∧ (U ∧ ((U) ∧ ((U) ∧ U) ∧ (.v (.one (.sc (.bool (t19 == (9 : Int))))) : Tm) = halterlaw33_sure.R r ∧ ([] : List Box) = [])))))))) ∧ (((List.getD (p3 t3) 0 (0 : Int)) == (0 : Int)) = false → (((List.getD (p3 t3) 0 (0 : Int)) == (0 : Int)) = false ∧ (((List.getD (p3 t3) 0 (0 : Int)) == (0 : Int)) = false ∧ (((List.getD (p3 t3) 0 (0 : Int)) == (0 : Int)) = false ∧ (((List.getD (p3 t3) 0 (0 : Int)) == (0 : Int)) = false ∧ (U ∧ ((U) ∧ ((U) ∧ U) ∧ (.v (.one (.sc (.bool false))) : Tm) = halterlaw33_sure.R r ∧ ([] : List Box) = [])))))))))))))) ∧ ((t3.1 == (2 : Int)) = false → ((t3.1 == (2 : Int)) = false ∧ ((t3.1 == (2 : Int)) = false ∧ ((t3.1 == (2 : Int)) = false ∧ ((t3.1 == (2 : Int)) = false ∧ ((t3.1 == (2 : Int)) = false ∧ (false = false ∧ (false = false ∧ (false = false ∧ (false = false ∧ (false = false ∧ (U ∧ ((U) ∧ ((U) ∧ U) ∧ (.v (.one (.sc (.bool false))) : Tm) = halterlaw33_sure.R r ∧ ([] : List Box) = [])))))))))))))))))) ∧ (t15 = false → (t15 = false ∧ (t15 = false ∧ (t15 = false ∧ (false = false ∧ (false = false ∧ (false = false ∧ (false = false ∧ (false = false ∧ (false = false ∧ (false = false ∧ (false = false ∧ (false = false ∧ (false = false ∧ (false = false ∧ (U ∧ ((U) ∧ ((U) ∧ U) ∧ (.v (.one (.sc (.bool false))) : Tm) = halterlaw33_sure.R r ∧ ([] : List Box) = [])))))))))))))))))))))) ∧ ((t13 == (82 : Int)) = false → ((t13 == (82 : Int)) = false ∧ ((t13 == (82 : Int)) = false ∧ (false = false ∧ (false = false ∧ (false = false ∧ (false = false ∧ (false = false ∧ (false = false ∧ (false = false ∧ (false = false ∧ (false = false ∧ (false = false ∧ (false = false ∧ (false = false ∧ (false = false ∧ (false = false ∧ (false = false ∧ (U ∧ ((U) ∧ ((U) ∧ U) ∧ (.v (.one (.sc (.bool false))) : Tm) = halterlaw33_sure.R r ∧ ([] : List Box) = [])))))))))))))))))))))))))) ∧ (((List.getD (p3 t1) 13 (0 : Int)) == (1048576 : Int)) = false → (((List.getD (p3 t1) 13 (0 : Int)) == (1048576 : Int)) = false ∧ (((List.getD (p3 t1) 13 (0 : Int)) == (1048576 : Int)) = false ∧ (((List.getD (p3 t1) 13 (0 : Int)) == (1048576 : Int)) = false ∧ (false = false ∧ (false = false ∧ (false = false ∧ (false = false ∧ (false = false ∧ (false = false ∧ (false = false ∧ (false = false ∧ (false = false ∧ (false = false ∧ (false = false ∧ (false = false ∧ (false = false ∧ (false = false ∧ (false = false ∧ (false = false ∧ (false = false ∧ (false = false ∧ (U ∧ ((U) ∧ ((U) ∧ U) ∧ (.v (.one (.sc (.bool false))) : Tm) = halterlaw33_sure.R r ∧ ([] : List Box) = []))))))))))))))))))))))))))))))) ∧ (((p4 t1) == (256 : Int)) = false → (((p4 t1) == (256 : Int)) = false ∧ (((p4 t1) == (256 : Int)) = false ∧ (((p4 t1) == (256 : Int)) = false ∧ (((p4 t1) == (256 : Int)) = false ∧ (((p4 t1) == (256 : Int)) = false ∧ (false = false ∧ (false = false ∧ (false = false ∧ (false = false ∧ (false = false ∧ (false = false ∧ (false = false ∧ (false = false ∧ (false = false ∧ (false = false ∧ (false = false ∧ (false = false ∧ (false = false ∧ (false = false ∧ (false = false ∧ (false = false ∧ (false = false ∧ (false = false ∧ (false = false ∧ (false = false ∧ (false = false ∧ (false = false ∧ (U ∧ ((U) ∧ ((U) ∧ U) ∧ (.v (.one (.sc (.bool false))) : Tm) = halterlaw33_sure.R r ∧ ([] : List Box) = [])))))))))))))))))))))))))))))))))))) ∧ ((t9 == (22 : Int)) = false → ((t9 == (22 : Int)) = false ∧ ((t9 == (22 : Int)) = false ∧ ((t9 == (22 : Int)) = false ∧ ((t9 == (22 : Int)) = false ∧ (false = false ∧ (false = false ∧ (false = false ∧ (false = false ∧ (false = false ∧ (false = false ∧ (false = false ∧ (false = false ∧ (false = false ∧ (false = false ∧ (false = false ∧ (false = false ∧ (false = false ∧ (false = false ∧ (false = false ∧ (false = false ∧ (false = false ∧ (false = false ∧ (false = false ∧ (false = false ∧ (false = false ∧ (false = false ∧ (false = false ∧ (false = false ∧ (false = false ∧ (false = false ∧ (false = false ∧ (false = false ∧ (U ∧ ((U) ∧ ((U) ∧ U) ∧ (.v (.one (.sc (.bool false))) : Tm) = halterlaw33_sure.R r ∧ ([] : List Box) = []))))))))))))))))))))))))))))))))))))))))) ∧ ((Option.isNone (z21 t4)) = false → ((Option.isNone (z21 t4)) = false ∧ ((Option.isNone (z21 t4)) = false ∧ ((Option.isNone (z21 t4)) = false ∧ (false = false ∧ (false = false ∧ (false = false ∧ (false = false ∧ (false = false ∧ (false = false ∧ (false = false ∧ (false = false ∧ (false = false ∧ (false = false ∧ (false = false ∧ (false = false ∧ (false = false ∧ (false = false ∧ (false = false ∧ (false = false ∧ (false = false ∧ (false = false ∧ (false = false ∧ (false = false ∧ (false = false ∧ (false = false ∧ (false = false ∧ (false = false ∧ (false = false ∧ (false = false ∧ (false = false ∧ (false = false ∧ (false = false ∧ (false = false ∧ (false = false ∧ (false = false ∧ (false = false ∧ (U ∧ ((U) ∧ ((U) ∧ U) ∧ (.v (.one (.sc (.bool false))) : Tm) = halterlaw33_sure.R r ∧ ([] : List Box) = []))))))))))))))))))))))))))))))))))))))))))) ∧ ((Option.isNone (z21 t3)) = false → ((Option.isNone (z21 t3)) = false ∧ ((Option.isNone (z21 t3)) = false ∧ (false = false ∧ (false = false ∧ (false = false ∧ (false = false ∧ (false = false ∧ (false = false ∧ (false = false ∧ (false = false ∧ (false = false ∧ (false = false ∧ (false = false ∧ (false = false ∧ (false = false ∧ (false = false ∧ (false = false ∧ (false = false ∧ (false = false ∧ (false = false ∧ (false = false ∧ (false = false ∧ (false = false ∧ (false = false ∧ (false = false ∧ (false = false ∧ (false = false ∧ (false = false ∧ (false = false ∧ (false = false ∧ (false = false ∧ (false = false ∧ (false = false ∧ (false = false ∧ (false = false ∧ (false = false ∧ (false = false ∧ (false = false ∧ (false = false ∧ (U ∧ ((U) ∧ ((U) ∧ U) ∧ (.v (.one (.sc (.bool false))) : Tm) = halterlaw33_sure.R r ∧ ([] : List Box) = [])))))))))))))))))))))))))))))))))))))))))))))) ∧ ((Option.isNone (z21 t1)) = false → ((Option.isNone (z21 t1)) = false ∧ ((Option.isNone (z21 t1)) = false ∧ (false = false ∧ (false = false ∧ (false = false ∧ (false = false ∧ (false = false ∧ (false = false ∧ (false = false ∧ (false = false ∧ (false = false ∧ (false = false ∧ (false = false ∧ (false = false ∧ (false = false ∧ (false = false ∧ (false = false ∧ (false = false ∧ (false = false ∧ (false = false ∧ (false = false ∧ (false = false ∧ (false = false ∧ (false = false ∧ (false = false ∧ (false = false ∧ (false = false ∧ (false = false ∧ (false = false ∧ (false = false ∧ (false = false ∧ (false = false ∧ (false = false ∧ (false = false ∧ (false = false ∧ (false = false ∧ (false = false ∧ (false = false ∧ (false = false ∧ (false = false ∧ (false = false ∧ (false = false ∧ (U ∧ ((U) ∧ ((U) ∧ U) ∧ (.v (.one (.sc (.bool false))) : Tm) = halterlaw33_sure.R r ∧ ([] : List Box) = [])))))))))))))))))))))))))))))))))))))))))))))))))))) (by kernel_rfl) ?_)
  obtain ⟨t1, ht1, h⟩ := of_bind h
  refine ⟨t1, ⟨proc_First.fun_ ht1, T⟩, ?_⟩
  refine ⟨T, T, ?_⟩
  obtain ⟨t2, ht2, h⟩ := of_bind h
  refine ⟨t2, ⟨proc_Answer.fun_ ht2, T⟩, ?_⟩
  obtain ⟨t3, ht3, h⟩ := of_bind h
  refine ⟨t3, ⟨proc_Child.fun_ ht3, T⟩, ?_⟩
  refine ⟨T, T, ?_⟩
  obtain ⟨t4, ht4, h⟩ := of_bind h
  refine ⟨t4, ⟨proc_Post.fun_ ht4, T⟩, ?_⟩
  refine tI ?_
  obtain ⟨t5, ht5, h⟩ := of_bind h
  refine ⟨t5, ⟨proc_First.fun_ ht5, T⟩, ?_⟩
  refine ⟨T, T, ?_⟩
  refine ⟨fun b6 => ?_, fun b6 => ?_⟩
  · rw [if_pos (none_t b6)] at h
    refine ⟨b6, ?_⟩
    refine tI ?_
    refine ⟨b6, ?_⟩
    refine ⟨fun b7 => ?_, fun b7 => ?_⟩
    · rw [if_pos (none_t b7)] at h
      refine ⟨b7, ?_⟩
      refine tI ?_
      refine ⟨b7, ?_⟩
      refine ⟨fun b8 => ?_, fun b8 => ?_⟩
      · rw [if_pos (none_t b8)] at h
        refine ⟨b8, ?_⟩
        obtain ⟨t9, ht9, h⟩ := of_bind h
        refine ⟨t9, ⟨num.fun_ ht9, T⟩, ?_⟩
        refine ⟨b8, ?_⟩
        refine tI ?_
        refine ⟨b8, ?_⟩
        refine ⟨fun b10 => ?_, fun b10 => ?_⟩
        · rw [if_pos (beq_t b10)] at h
          refine ⟨b10, ?_⟩
          refine ⟨b10, ?_⟩
          refine tI ?_
          refine ⟨b10, ?_⟩
          refine tI ?_
          refine ⟨b10, ?_⟩
          refine ⟨fun b11 => ?_, fun b11 => ?_⟩
          · rw [if_pos (beq_t b11)] at h
            refine ⟨b11, ?_⟩
            refine ⟨b11, ?_⟩
            refine ⟨(by decide), ?_⟩
            refine ⟨b11, ?_⟩
            refine ⟨(by decide), ?_⟩
            refine ⟨b11, ?_⟩
            refine tI ?_
            refine ⟨b11, ?_⟩
            refine ⟨fun b12 => ?_, fun b12 => ?_⟩
            · rw [if_pos (beq_t b12)] at h
              refine tI ?_
              refine ⟨b12, ?_⟩
              obtain ⟨t13, ht13, h⟩ := of_bind h
              refine ⟨t13, ⟨proc_Letter.fun_ ht13, T⟩, ?_⟩
              refine ⟨b12, ?_⟩
              refine tI ?_
              refine ⟨b12, ?_⟩
              refine ⟨fun b14 => ?_, fun b14 => ?_⟩
              · rw [if_pos (beq_t b14)] at h
                refine tI ?_
                refine ⟨b14, ?_⟩
                obtain ⟨t15, ht15, h⟩ := of_bind h
                refine ⟨t15, ⟨proc_Runs.fun_ ht15, T⟩, ?_⟩
                refine ⟨b14, ?_⟩
                refine ⟨fun b16 => ?_, fun b16 => ?_⟩
                · rw [if_pos b16] at h
                  refine ⟨b16, ?_⟩
                  refine tI ?_
                  refine ⟨b16, ?_⟩
                  refine tI ?_
                  refine ⟨b16, ?_⟩
                  refine ⟨fun b17 => ?_, fun b17 => ?_⟩
                  · rw [if_pos (beq_t b17)] at h
                    refine ⟨b17, ?_⟩
                    refine ⟨b17, ?_⟩
                    refine ⟨(by decide), ?_⟩
                    refine ⟨b17, ?_⟩
                    refine ⟨(by decide), ?_⟩
                    refine ⟨b17, ?_⟩
                    refine tI ?_
                    refine ⟨b17, ?_⟩
                    refine ⟨fun b18 => ?_, fun b18 => ?_⟩
                    · rw [if_pos (beq_t b18)] at h
                      refine ⟨b18, ?_⟩
                      refine tI ?_
                      refine ⟨b18, ?_⟩
                      obtain ⟨t19, ht19, h⟩ := of_bind h
                      refine ⟨t19, ⟨sig_Next.fun_ ht19, T⟩, ?_⟩
                      refine ⟨b18, ?_⟩
                      refine tI ?_
                      refine ⟨b18, ?_⟩
                      refine tI ?_
                      obtain rfl := oi h
                      exact ⟨T, ⟨T, T⟩, rfl, rfl⟩
                    · rw [if_neg (beq_f b18)] at h
                      refine ⟨b18, ?_⟩
                      refine ⟨b18, ?_⟩
                      refine ⟨b18, ?_⟩
                      refine ⟨b18, ?_⟩
                      refine tI ?_
                      obtain rfl := oi h
                      exact ⟨T, ⟨T, T⟩, rfl, rfl⟩
                  · rw [if_neg (beq_f b17)] at h
                    refine ⟨b17, ?_⟩
                    refine ⟨b17, ?_⟩
                    refine ⟨b17, ?_⟩
                    refine ⟨b17, ?_⟩
                    refine ⟨b17, ?_⟩
                    refine ⟨rfl, rfl, rfl, rfl, rfl, T, ?_⟩
                    obtain rfl := oi h
                    exact ⟨T, ⟨T, T⟩, rfl, rfl⟩
                · rw [if_neg (ff b16)] at h
                  refine ⟨b16, ?_⟩
                  refine ⟨b16, ?_⟩
                  refine ⟨b16, ?_⟩
                  refine ⟨rfl, rfl, rfl, rfl, rfl, rfl, rfl, rfl, rfl, rfl, rfl, T, ?_⟩
                  obtain rfl := oi h
                  exact ⟨T, ⟨T, T⟩, rfl, rfl⟩
              · rw [if_neg (beq_f b14)] at h
                refine ⟨b14, ?_⟩
                refine ⟨b14, ?_⟩
                refine ⟨rfl, rfl, rfl, rfl, rfl, rfl, rfl, rfl, rfl, rfl, rfl, rfl, rfl, rfl, rfl, T, ?_⟩
                obtain rfl := oi h
                exact ⟨T, ⟨T, T⟩, rfl, rfl⟩
            · rw [if_neg (beq_f b12)] at h
              refine ⟨b12, ?_⟩
              refine ⟨b12, ?_⟩
              refine ⟨b12, ?_⟩
              refine ⟨rfl, rfl, rfl, rfl, rfl, rfl, rfl, rfl, rfl, rfl, rfl, rfl, rfl, rfl, rfl, rfl, rfl, rfl, T, ?_⟩
              obtain rfl := oi h
              exact ⟨T, ⟨T, T⟩, rfl, rfl⟩
          · rw [if_neg (beq_f b11)] at h
            refine ⟨b11, ?_⟩
            refine ⟨b11, ?_⟩
            refine ⟨b11, ?_⟩
            refine ⟨b11, ?_⟩
            refine ⟨b11, ?_⟩
            refine ⟨rfl, rfl, rfl, rfl, rfl, rfl, rfl, rfl, rfl, rfl, rfl, rfl, rfl, rfl, rfl, rfl, rfl, rfl, rfl, rfl, rfl, rfl, T, ?_⟩
            obtain rfl := oi h
            exact ⟨T, ⟨T, T⟩, rfl, rfl⟩
        · rw [if_neg (beq_f b10)] at h
          refine ⟨b10, ?_⟩
          refine ⟨b10, ?_⟩
          refine ⟨b10, ?_⟩
          refine ⟨b10, ?_⟩
          refine ⟨rfl, rfl, rfl, rfl, rfl, rfl, rfl, rfl, rfl, rfl, rfl, rfl, rfl, rfl, rfl, rfl, rfl, rfl, rfl, rfl, rfl, rfl, rfl, rfl, rfl, rfl, rfl, rfl, T, ?_⟩
          obtain rfl := oi h
          exact ⟨T, ⟨T, T⟩, rfl, rfl⟩
      · rw [if_neg (none_f b8)] at h
        refine ⟨b8, ?_⟩
        refine ⟨b8, ?_⟩
        refine ⟨b8, ?_⟩
        refine ⟨rfl, rfl, rfl, rfl, rfl, rfl, rfl, rfl, rfl, rfl, rfl, rfl, rfl, rfl, rfl, rfl, rfl, rfl, rfl, rfl, rfl, rfl, rfl, rfl, rfl, rfl, rfl, rfl, rfl, rfl, rfl, rfl, rfl, T, ?_⟩
        obtain rfl := oi h
        exact ⟨T, ⟨T, T⟩, rfl, rfl⟩
    · rw [if_neg (none_f b7)] at h
      refine ⟨b7, ?_⟩
      refine ⟨b7, ?_⟩
      refine ⟨rfl, rfl, rfl, rfl, rfl, rfl, rfl, rfl, rfl, rfl, rfl, rfl, rfl, rfl, rfl, rfl, rfl, rfl, rfl, rfl, rfl, rfl, rfl, rfl, rfl, rfl, rfl, rfl, rfl, rfl, rfl, rfl, rfl, rfl, rfl, rfl, rfl, T, ?_⟩
      obtain rfl := oi h
      exact ⟨T, ⟨T, T⟩, rfl, rfl⟩
  · rw [if_neg (none_f b6)] at h
    refine ⟨b6, ?_⟩
    refine ⟨b6, ?_⟩
    refine ⟨rfl, rfl, rfl, rfl, rfl, rfl, rfl, rfl, rfl, rfl, rfl, rfl, rfl, rfl, rfl, rfl, rfl, rfl, rfl, rfl, rfl, rfl, rfl, rfl, rfl, rfl, rfl, rfl, rfl, rfl, rfl, rfl, rfl, rfl, rfl, rfl, rfl, rfl, rfl, rfl, T, ?_⟩
    obtain rfl := oi h
    exact ⟨T, ⟨T, T⟩, rfl, rfl⟩
/-! halter/halterlaw33.giveSig -/
def halterlaw33_giveSig.f (a0 : Int) (a1 : Int) (a2 : (List Int)) : Option (Int × Int × (List Int)) :=
  some (a0, a1, a2)
def halterlaw33_giveSig.R (r : Int × Int × (List Int)) : Tm := .v (.agg [.c (.sc (.int .u32 r.1)), .c (.sc (.int .u32 r.2.1)), .row 32 (.int .u32) r.2.2])
theorem halterlaw33_giveSig.fun_ {a0 : Int} {a1 : Int} {a2 : (List Int)} {r : Int × Int × (List Int)} (h : halterlaw33_giveSig.f a0 a1 a2 = some r) : Fun cfg 23 [.agg [.c (.sc (.int .u32 a0)), .c (.sc (.int .u32 a1)), .row 32 (.int .u32) a2]] [] (halterlaw33_giveSig.R r) [] := by
  unfold halterlaw33_giveSig.f at h
  refine fun_of_run cfg_ok (f := 23) (fn := Tryz.f23) Tryz.func23 rfl (by kernel_rfl) (rs := [.cell 2 43]) rfl (nt := 10) rfl (l := fin) (k := (aE 3 (.adj [.drop 0] .nil))) (to_goal (q := (U ∧ (U ∧ (U) ∧ (U) ∧ (U) ∧ (U) ∧ (U ∧ (((U) ∧ U) ∧ ((U) ∧ U) ∧ (.v (.agg [.c (.sc (.int .u32 a0)), .c (.sc (.int .u32 a1)), .row 32 (.int .u32) a2]) : Tm) = halterlaw33_giveSig.R r ∧ ([] : List Box) = []))))) (by kernel_rfl) ?_)
  refine ⟨T, T, T, T, T, T, T, ?_⟩
  obtain rfl := oi h
  exact ⟨⟨T, T⟩, ⟨T, T⟩, rfl, rfl⟩
/-! halter/halterlaw33.giveProc -/
def halterlaw33_giveProc.f (a0 : Int) (a1 : Int) (a2 : ByteArray) (a3 : (List Int)) (a4 : Int) (a5 : Int) (a6 : (List Int)) (a7 : (List Int)) (a8 : Int) (a9 : Int) (a10 : (List Int)) (a11 : Int) (a12 : Bool) (a13 : Int) (a14 : Int) (a15 : Int) (a16 : Bool) (a17 : Bool) (a18 : Bool) (a19 : Int) (a20 : Int) : Option (TY0) :=
  (halterlaw33_giveSig.f a8 a9 a10).bind fun t1 =>
  some (a0, a1, a2, a3, a4, a5, a6, a7, t1.1, t1.2.1, t1.2.2, a11, a12, a13, a14, a15, a16, a17, a18, a19, a20)
def gPR (r : TY0) : Tm := .v (.agg [.c (.sc (.int .i64 r.1)), .c (.sc (.int .i64 r.2.1)), .c (.sc (.string r.2.2.1)), .row 16 (.int .u32) r.2.2.2.1, .c (.sc (.int .u32 r.2.2.2.2.1)), .c (.sc (.int .u32 r.2.2.2.2.2.1)), .row 4 (.int .u64) r.2.2.2.2.2.2.1, .row 8 (.int .i64) r.2.2.2.2.2.2.2.1, .c (.sc (.int .u32 r.2.2.2.2.2.2.2.2.1)), .c (.sc (.int .u32 r.2.2.2.2.2.2.2.2.2.1)), .row 32 (.int .u32) r.2.2.2.2.2.2.2.2.2.2.1, .c (.sc (.int .i64 r.2.2.2.2.2.2.2.2.2.2.2.1)), .c (.sc (.bool r.2.2.2.2.2.2.2.2.2.2.2.2.1)), .c (.sc (.int .u32 r.2.2.2.2.2.2.2.2.2.2.2.2.2.1)), .c (.sc (.int .i64 r.2.2.2.2.2.2.2.2.2.2.2.2.2.2.1)), .c (.sc (.int .i64 r.2.2.2.2.2.2.2.2.2.2.2.2.2.2.2.1)), .c (.sc (.bool r.2.2.2.2.2.2.2.2.2.2.2.2.2.2.2.2.1)), .c (.sc (.bool r.2.2.2.2.2.2.2.2.2.2.2.2.2.2.2.2.2.1)), .c (.sc (.bool r.2.2.2.2.2.2.2.2.2.2.2.2.2.2.2.2.2.2.1)), .c (.sc (.int .i64 r.2.2.2.2.2.2.2.2.2.2.2.2.2.2.2.2.2.2.2.1)), .c (.sc (.int .i64 r.2.2.2.2.2.2.2.2.2.2.2.2.2.2.2.2.2.2.2.2))])
theorem gPf {a0 : Int} {a1 : Int} {a2 : ByteArray} {a3 : (List Int)} {a4 : Int} {a5 : Int} {a6 : (List Int)} {a7 : (List Int)} {a8 : Int} {a9 : Int} {a10 : (List Int)} {a11 : Int} {a12 : Bool} {a13 : Int} {a14 : Int} {a15 : Int} {a16 : Bool} {a17 : Bool} {a18 : Bool} {a19 : Int} {a20 : Int} {r : TY0} (h : halterlaw33_giveProc.f a0 a1 a2 a3 a4 a5 a6 a7 a8 a9 a10 a11 a12 a13 a14 a15 a16 a17 a18 a19 a20 = some r) : Fun cfg 5 [.agg [.c (.sc (.int .i64 a0)), .c (.sc (.int .i64 a1)), .c (.sc (.string a2)), .row 16 (.int .u32) a3, .c (.sc (.int .u32 a4)), .c (.sc (.int .u32 a5)), .row 4 (.int .u64) a6, .row 8 (.int .i64) a7, .c (.sc (.int .u32 a8)), .c (.sc (.int .u32 a9)), .row 32 (.int .u32) a10, .c (.sc (.int .i64 a11)), .c (.sc (.bool a12)), .c (.sc (.int .u32 a13)), .c (.sc (.int .i64 a14)), .c (.sc (.int .i64 a15)), .c (.sc (.bool a16)), .c (.sc (.bool a17)), .c (.sc (.bool a18)), .c (.sc (.int .i64 a19)), .c (.sc (.int .i64 a20))]] [] (gPR r) [] := by
  unfold halterlaw33_giveProc.f at h
  refine fun_of_run cfg_ok (f := 5) (fn := Tryz.f5) Tryz.func5 rfl (by kernel_rfl) (rs := [.cell 2 46]) rfl (nt := 28) rfl (l := fin) (k := (.ex (Int × Int × (List Int)) (fun t1 => (.dr [(0, dN), (2, dN), (4, dN), (6, dN), (8, dN), (11, dN), (14, dN), (16, dN), (18, dN), (20, dN), (22, dN), (1, dN), (3, dN), (5, dN), (7, dN), (9, dN), (10, dN), (12, dN), (13, ⟨none, .callP true [] (halterlaw33_giveSig.R t1), false⟩), (15, dN), (17, dN), (19, dN), (21, dN), (23, dN), (24, dN), (25, dN)] (.adj [] (.adj [.drop 0] .nil)))))) (to_goal (q := (∃ t1 : Int × Int × (List Int), (U) ∧ (U) ∧ (U) ∧ (U) ∧ (U) ∧ (U) ∧ (Fun cfg 23 [.agg [.c (.sc (.int .u32 a8)), .c (.sc (.int .u32 a9)), .row 32 (.int .u32) a10]] [] (halterlaw33_giveSig.R t1) [] ∧ U) ∧ (U) ∧ (U) ∧ (U) ∧ (U) ∧ (U) ∧ (U) ∧ (U ∧ (((U) ∧ U) ∧ ((U) ∧ U) ∧ (.v (.agg [.c (.sc (.int .i64 a0)), .c (.sc (.int .i64 a1)), .c (.sc (.string a2)), .row 16 (.int .u32) a3, .c (.sc (.int .u32 a4)), .c (.sc (.int .u32 a5)), .row 4 (.int .u64) a6, .row 8 (.int .i64) a7, .c (.sc (.int .u32 t1.1)), .c (.sc (.int .u32 t1.2.1)), .row 32 (.int .u32) (z2 t1), .c (.sc (.int .i64 a11)), .c (.sc (.bool a12)), .c (.sc (.int .u32 a13)), .c (.sc (.int .i64 a14)), .c (.sc (.int .i64 a15)), .c (.sc (.bool a16)), .c (.sc (.bool a17)), .c (.sc (.bool a18)), .c (.sc (.int .i64 a19)), .c (.sc (.int .i64 a20))]) : Tm) = gPR r ∧ ([] : List Box) = [])))) (by kernel_rfl) ?_)
  obtain ⟨t1, ht1, h⟩ := of_bind h
  refine ⟨t1, ?_⟩
  refine ⟨T, T, T, T, T, T, ⟨halterlaw33_giveSig.fun_ ht1, T⟩, T, T, T, T, T, T, ?_⟩
  refine tI ?_
  obtain rfl := oi h
  exact ⟨⟨T, T⟩, ⟨T, T⟩, rfl, rfl⟩
/-! halter/halterref22.Is -/
def halterref22_Is.f (a0 : Int) : Option Bool :=
  if a0 ≥ (0 : Int) then
    some (decide (a0 ≤ (65535 : Int)))
  else
    some false
def halterref22_Is.R (r : Bool) : Tm := .v (.one (.sc (.bool r)))
theorem halterref22_Is.fun_ {a0 : Int} {r : Bool} (h : halterref22_Is.f a0 = some r) : Fun cfg 40 [.one (.sc (.int .i64 a0))] [] (halterref22_Is.R r) [] := by
  unfold halterref22_Is.f at h
  refine fun_of_run cfg_ok (f := 40) (fn := Tryz.f40) Tryz.func40 rfl (by kernel_rfl) (rs := [.tmp 2]) rfl (nt := 9) rfl (l := fin) (k := (.br (oT 2 (aE 2 .nil)) (oF 2 (aE 2 .nil)))) (to_goal (q := (U) ∧ (((decide (a0 ≥ (0 : Int))) = true → ((decide (a0 ≥ (0 : Int))) = true ∧ (U) ∧ ((decide (a0 ≥ (0 : Int))) = true ∧ (U ∧ ((U) ∧ (U) ∧ (.v (.one (.sc (.bool (decide (a0 ≤ (65535 : Int)))))) : Tm) = halterref22_Is.R r ∧ ([] : List Box) = []))))) ∧ ((decide (a0 ≥ (0 : Int))) = false → ((decide (a0 ≥ (0 : Int))) = false ∧ ((decide (a0 ≥ (0 : Int))) = false ∧ (U ∧ ((U) ∧ (U) ∧ (.v (.one (.sc (.bool false))) : Tm) = halterref22_Is.R r ∧ ([] : List Box) = []))))))) (by kernel_rfl) ?_)
  refine tI ?_
  refine ⟨fun b1 => ?_, fun b1 => ?_⟩
  · rw [if_pos (dT_ b1)] at h
    refine ⟨b1, ?_⟩
    refine tI ?_
    refine ⟨b1, ?_⟩
    refine tI ?_
    obtain rfl := oi h
    exact ⟨T, T, rfl, rfl⟩
  · rw [if_neg (dF_ b1)] at h
    refine ⟨b1, ?_⟩
    refine ⟨b1, ?_⟩
    refine tI ?_
    obtain rfl := oi h
    exact ⟨T, T, rfl, rfl⟩
/-! halter/halterref16.Check -/
def halterref16_Check.l0 (a0 : ByteArray) : Nat → Int → Option ((Unit) ⊕ (Unit))
  | 0, _ => none
  | n + 1, x3 =>
    if x3 < ((ByteArray.size a0 : Nat) : Int) then
      if 0 ≤ x3 ∧ x3 < (((ByteArray.size a0) : Nat) : Int) then
        if (bt a0 x3) ≥ (97 : Int) then
          if (bt a0 x3) ≤ (122 : Int) then
            halterref16_Check.l0 a0 n (IntKind.wrap .i64 (x3 + (1 : Int)))
          else
            if (bt a0 x3) ≥ (48 : Int) then
              if (bt a0 x3) ≤ (57 : Int) then
                halterref16_Check.l0 a0 n (IntKind.wrap .i64 (x3 + (1 : Int)))
              else
                if (bt a0 x3) = (46 : Int) then
                  halterref16_Check.l0 a0 n (IntKind.wrap .i64 (x3 + (1 : Int)))
                else
                  if (bt a0 x3) = (95 : Int) then
                    halterref16_Check.l0 a0 n (IntKind.wrap .i64 (x3 + (1 : Int)))
                  else
                    if ¬ ((bt a0 x3) = (45 : Int)) then
                      some (.inr ())
                    else
                      halterref16_Check.l0 a0 n (IntKind.wrap .i64 (x3 + (1 : Int)))
            else
              if (bt a0 x3) = (46 : Int) then
                halterref16_Check.l0 a0 n (IntKind.wrap .i64 (x3 + (1 : Int)))
              else
                if (bt a0 x3) = (95 : Int) then
                  halterref16_Check.l0 a0 n (IntKind.wrap .i64 (x3 + (1 : Int)))
                else
                  if ¬ ((bt a0 x3) = (45 : Int)) then
                    some (.inr ())
                  else
                    halterref16_Check.l0 a0 n (IntKind.wrap .i64 (x3 + (1 : Int)))
        else
          if (bt a0 x3) ≥ (48 : Int) then
            if (bt a0 x3) ≤ (57 : Int) then
              halterref16_Check.l0 a0 n (IntKind.wrap .i64 (x3 + (1 : Int)))
            else
              if (bt a0 x3) = (46 : Int) then
                halterref16_Check.l0 a0 n (IntKind.wrap .i64 (x3 + (1 : Int)))
              else
                if (bt a0 x3) = (95 : Int) then
                  halterref16_Check.l0 a0 n (IntKind.wrap .i64 (x3 + (1 : Int)))
                else
                  if ¬ ((bt a0 x3) = (45 : Int)) then
                    some (.inr ())
                  else
                    halterref16_Check.l0 a0 n (IntKind.wrap .i64 (x3 + (1 : Int)))
          else
            if (bt a0 x3) = (46 : Int) then
              halterref16_Check.l0 a0 n (IntKind.wrap .i64 (x3 + (1 : Int)))
            else
              if (bt a0 x3) = (95 : Int) then
                halterref16_Check.l0 a0 n (IntKind.wrap .i64 (x3 + (1 : Int)))
              else
                if ¬ ((bt a0 x3) = (45 : Int)) then
                  some (.inr ())
                else
                  halterref16_Check.l0 a0 n (IntKind.wrap .i64 (x3 + (1 : Int)))
      else none
    else
      some (.inl ())
def halterref16_Check.l0_S (a0 : ByteArray) (x3 : Int) : St := ⟨[.v (.one (.sc (.string a0))), A, A, vi .i64 x3, A, A, A, A, A, A, A, A, A, A, A, A, A, A, A, A, A, A, A, A, A, A, A, A, A, A, A, A, A, A, A, A, A, A, A, A, A, A, A, A, A, A], [], 0⟩
def halterref16_Check.l0_Q (a0 : ByteArray) : (Unit) ⊕ (Unit) → Exit → St → Prop
  | .inl t => fun e s => e = (.exit 0) ∧ s = ⟨[A, A, A, A, A, A, A, A, A, A, A, A, A, A, A, A, A, A, A, A, A, A, A, A, A, A, A, A, A, A, A, A, A, A, A, A, A, A, A, A, A, A, A, A, A, A], [], 0⟩
  | .inr t => fun e s => e = .ret ∧ s = ⟨[A, A, vi .i64 (22 : Int), A, A, A, A, A, A, A, A, A, A, A, A, A, A, A, A, A, A, A, A, A, A, A, A, A, A, A, A, A, A, A, A, A, A, A, A, A, A, A, A, A, A, A], [], 0⟩
theorem halterref16_Check.l0_ok (a0 : ByteArray) : ∀ (n : Nat) (x3 : Int) (r : (Unit) ⊕ (Unit)), halterref16_Check.l0 a0 n x3 = some r → TripN cfg (cpath (Tryz.f28.body.getD .skip) [1, 1, 1, 0, 1, 0, 0]) n (halterref16_Check.l0_S a0 x3) (halterref16_Check.l0_Q a0 r) := by
  intro n
  induction n with
  | zero => intro x3 r h; cases h
  | succ n ih =>
    intro x3 r h
    rw [halterref16_Check.l0] at h
    refine TripN.of_run cfg_ok (k := (.br (.br (oT 2 (.br (oT 13 (.one false (aE 2 (.adj [.keep [0, 3], .drop 0] .nil)))) (oF 2 (.br (.one true (.one false (.one true (.one false (.br (oT 8 (.one false (aE 2 (.adj [.keep [0, 3], .drop 0] .nil)))) (oF 2 (.br (oT 5 (.one false (aE 2 (.adj [.keep [0, 3], .drop 0] .nil)))) (oF 2 (.br (oT 2 (.one false (aE 2 (.adj [.keep [0, 3], .drop 0] .nil)))) (oF 2 (.br (.adj [] (.adj [.keep [2], .drop 0] .nil)) (aE 2 (.adj [.keep [0, 3], .drop 0] .nil))))))))))))) (oF 7 (.br (oT 5 (.one false (aE 2 (.adj [.keep [0, 3], .drop 0] .nil)))) (oF 2 (.br (oT 2 (.one false (aE 2 (.adj [.keep [0, 3], .drop 0] .nil)))) (oF 2 (.br (.adj [] (.adj [.keep [2], .drop 0] .nil)) (aE 2 (.adj [.keep [0, 3], .drop 0] .nil)))))))))))) (oF 5 (.br (.one true (.one false (.one true (.one false (.br (oT 8 (.one false (aE 2 (.adj [.keep [0, 3], .drop 0] .nil)))) (oF 2 (.br (oT 5 (.one false (aE 2 (.adj [.keep [0, 3], .drop 0] .nil)))) (oF 2 (.br (oT 2 (.one false (aE 2 (.adj [.keep [0, 3], .drop 0] .nil)))) (oF 2 (.br (.adj [] (.adj [.keep [2], .drop 0] .nil)) (aE 2 (.adj [.keep [0, 3], .drop 0] .nil))))))))))))) (oF 7 (.br (oT 5 (.one false (aE 2 (.adj [.keep [0, 3], .drop 0] .nil)))) (oF 2 (.br (oT 2 (.one false (aE 2 (.adj [.keep [0, 3], .drop 0] .nil)))) (oF 2 (.br (.adj [] (.adj [.keep [2], .drop 0] .nil)) (aE 2 (.adj [.keep [0, 3], .drop 0] .nil))))))))))) (.adj [.keep [], .drop 0] .nil))) (to_goal (q := (U) ∧ (U) ∧ (((decide (x3 < ((ByteArray.size a0 : Nat) : Int))) = true → (0 ≤ x3 ∧ x3 < (((ByteArray.size a0) : Nat) : Int)) ∧ (U) ∧ (((decide ((bt a0 x3) ≥ (97 : Int))) = true → ((decide ((bt a0 x3) ≥ (97 : Int))) = true ∧ (U) ∧ ((decide ((bt a0 x3) ≥ (97 : Int))) = true ∧ (((decide ((bt a0 x3) ≤ (122 : Int))) = false → ((decide ((bt a0 x3) ≤ (122 : Int))) = false ∧ (U) ∧ ((decide ((bt a0 x3) ≤ (122 : Int))) = false ∧ (((decide ((bt a0 x3) ≥ (48 : Int))) = true → ((decide ((bt a0 x3) ≥ (48 : Int))) = true ∧ (U) ∧ ((decide ((bt a0 x3) ≤ (122 : Int))) = false ∧ ((decide ((bt a0 x3) ≥ (48 : Int))) = true ∧ ((decide ((bt a0 x3) ≤ (122 : Int))) = false ∧ (((decide ((bt a0 x3) ≤ (57 : Int))) = false → ((decide ((bt a0 x3) ≤ (57 : Int))) = false ∧ (U) ∧ ((decide ((bt a0 x3) ≤ (57 : Int))) = false ∧ ((((bt a0 x3) == (46 : Int)) = false → (((bt a0 x3) == (46 : Int)) = false ∧ (U) ∧ (((bt a0 x3) == (46 : Int)) = false ∧ ((((bt a0 x3) == (95 : Int)) = false → (((bt a0 x3) == (95 : Int)) = false ∧ (U) ∧ (((bt a0 x3) == (95 : Int)) = false ∧ (((!((bt a0 x3) == (45 : Int))) = true → (U ∧ (((U) ∧ (U) ∧ U) ∧ halterref16_Check.l0_Q a0 r .ret ⟨[A, A, vi .i64 (22 : Int), A, A, A, A, A, A, A, A, A, A, A, A, A, A, A, A, A, A, A, A, A, A, A, A, A, A, A, A, A, A, A, A, A, A, A, A, A, A, A, A, A, A, A], [], 0⟩))) ∧ ((!((bt a0 x3) == (45 : Int))) = false → (U ∧ (U ∧ (U) ∧ (((U) ∧ (U) ∧ U) ∧ TripN cfg (cpath (Tryz.f28.body.getD .skip) [1, 1, 1, 0, 1, 0, 0]) n (halterref16_Check.l0_S a0 (IntKind.wrap .i64 (x3 + (1 : Int)))) (halterref16_Check.l0_Q a0 r))))))))) ∧ (((bt a0 x3) == (95 : Int)) = true → (((bt a0 x3) == (95 : Int)) = true ∧ (((bt a0 x3) == (95 : Int)) = true ∧ (false = false ∧ (U ∧ (U ∧ (U) ∧ (((U) ∧ (U) ∧ U) ∧ TripN cfg (cpath (Tryz.f28.body.getD .skip) [1, 1, 1, 0, 1, 0, 0]) n (halterref16_Check.l0_S a0 (IntKind.wrap .i64 (x3 + (1 : Int)))) (halterref16_Check.l0_Q a0 r)))))))))))) ∧ (((bt a0 x3) == (46 : Int)) = true → (((bt a0 x3) == (46 : Int)) = true ∧ (((bt a0 x3) == (46 : Int)) = true ∧ (true = true ∧ (true = true ∧ (true = true ∧ (false = false ∧ (U ∧ (U ∧ (U) ∧ (((U) ∧ (U) ∧ U) ∧ TripN cfg (cpath (Tryz.f28.body.getD .skip) [1, 1, 1, 0, 1, 0, 0]) n (halterref16_Check.l0_S a0 (IntKind.wrap .i64 (x3 + (1 : Int)))) (halterref16_Check.l0_Q a0 r))))))))))))))) ∧ ((decide ((bt a0 x3) ≤ (57 : Int))) = true → ((decide ((bt a0 x3) ≤ (57 : Int))) = true ∧ ((decide ((bt a0 x3) ≤ (57 : Int))) = true ∧ (true = true ∧ (true = true ∧ (true = true ∧ (true = true ∧ (true = true ∧ (true = true ∧ (false = false ∧ (U ∧ (U ∧ (U) ∧ (((U) ∧ (U) ∧ U) ∧ TripN cfg (cpath (Tryz.f28.body.getD .skip) [1, 1, 1, 0, 1, 0, 0]) n (halterref16_Check.l0_S a0 (IntKind.wrap .i64 (x3 + (1 : Int)))) (halterref16_Check.l0_Q a0 r)))))))))))))))))))) ∧ ((decide ((bt a0 x3) ≥ (48 : Int))) = false → ((decide ((bt a0 x3) ≥ (48 : Int))) = false ∧ ((decide ((bt a0 x3) ≤ (122 : Int))) = false ∧ ((decide ((bt a0 x3) ≥ (48 : Int))) = false ∧ ((decide ((bt a0 x3) ≤ (122 : Int))) = false ∧ (false = false ∧ (false = false ∧ (U) ∧ (false = false ∧ ((((bt a0 x3) == (46 : Int)) = false → (((bt a0 x3) == (46 : Int)) = false ∧ (U) ∧ (((bt a0 x3) == (46 : Int)) = false ∧ ((((bt a0 x3) == (95 : Int)) = false → (((bt a0 x3) == (95 : Int)) = false ∧ (U) ∧ (((bt a0 x3) == (95 : Int)) = false ∧ (((!((bt a0 x3) == (45 : Int))) = true → (U ∧ (((U) ∧ (U) ∧ U) ∧ halterref16_Check.l0_Q a0 r .ret ⟨[A, A, vi .i64 (22 : Int), A, A, A, A, A, A, A, A, A, A, A, A, A, A, A, A, A, A, A, A, A, A, A, A, A, A, A, A, A, A, A, A, A, A, A, A, A, A, A, A, A, A, A], [], 0⟩))) ∧ ((!((bt a0 x3) == (45 : Int))) = false → (U ∧ (U ∧ (U) ∧ (((U) ∧ (U) ∧ U) ∧ TripN cfg (cpath (Tryz.f28.body.getD .skip) [1, 1, 1, 0, 1, 0, 0]) n (halterref16_Check.l0_S a0 (IntKind.wrap .i64 (x3 + (1 : Int)))) (halterref16_Check.l0_Q a0 r))))))))) ∧ (((bt a0 x3) == (95 : Int)) = true → (((bt a0 x3) == (95 : Int)) = true ∧ (((bt a0 x3) == (95 : Int)) = true ∧ (false = false ∧ (U ∧ (U ∧ (U) ∧ (((U) ∧ (U) ∧ U) ∧ TripN cfg (cpath (Tryz.f28.body.getD .skip) [1, 1, 1, 0, 1, 0, 0]) n (halterref16_Check.l0_S a0 (IntKind.wrap .i64 (x3 + (1 : Int)))) (halterref16_Check.l0_Q a0 r)))))))))))) ∧ (((bt a0 x3) == (46 : Int)) = true → (((bt a0 x3) == (46 : Int)) = true ∧ (((bt a0 x3) == (46 : Int)) = true ∧ (true = true ∧ (true = true ∧ (true = true ∧ (false = false ∧ (U ∧ (U ∧ (U) ∧ (((U) ∧ (U) ∧ U) ∧ TripN cfg (cpath (Tryz.f28.body.getD .skip) [1, 1, 1, 0, 1, 0, 0]) n (halterref16_Check.l0_S a0 (IntKind.wrap .i64 (x3 + (1 : Int)))) (halterref16_Check.l0_Q a0 r)))))))))))))))))))))))) ∧ ((decide ((bt a0 x3) ≤ (122 : Int))) = true → ((decide ((bt a0 x3) ≤ (122 : Int))) = true ∧ ((decide ((bt a0 x3) ≤ (122 : Int))) = true ∧ ((decide ((bt a0 x3) ≤ (122 : Int))) = true ∧ ((decide ((bt a0 x3) ≤ (122 : Int))) = true ∧ (true = true ∧ (true = true ∧ (true = true ∧ (true = true ∧ (true = true ∧ (true = true ∧ (true = true ∧ (true = true ∧ (true = true ∧ (false = false ∧ (U ∧ (U ∧ (U) ∧ (((U) ∧ (U) ∧ U) ∧ TripN cfg (cpath (Tryz.f28.body.getD .skip) [1, 1, 1, 0, 1, 0, 0]) n (halterref16_Check.l0_S a0 (IntKind.wrap .i64 (x3 + (1 : Int)))) (halterref16_Check.l0_Q a0 r))))))))))))))))))))))) ∧ ((decide ((bt a0 x3) ≥ (97 : Int))) = false → ((decide ((bt a0 x3) ≥ (97 : Int))) = false ∧ ((decide ((bt a0 x3) ≥ (97 : Int))) = false ∧ (false = false ∧ (false = false ∧ (U) ∧ (false = false ∧ (((decide ((bt a0 x3) ≥ (48 : Int))) = true → ((decide ((bt a0 x3) ≥ (48 : Int))) = true ∧ (U) ∧ (false = false ∧ ((decide ((bt a0 x3) ≥ (48 : Int))) = true ∧ (false = false ∧ (((decide ((bt a0 x3) ≤ (57 : Int))) = false → ((decide ((bt a0 x3) ≤ (57 : Int))) = false ∧ (U) ∧ ((decide ((bt a0 x3) ≤ (57 : Int))) = false ∧ ((((bt a0 x3) == (46 : Int)) = false → (((bt a0 x3) == (46 : Int)) = false ∧ (U) ∧ (((bt a0 x3) == (46 : Int)) = false ∧ ((((bt a0 x3) == (95 : Int)) = false → (((bt a0 x3) == (95 : Int)) = false ∧ (U) ∧ (((bt a0 x3) == (95 : Int)) = false ∧ (((!((bt a0 x3) == (45 : Int))) = true → (U ∧ (((U) ∧ (U) ∧ U) ∧ halterref16_Check.l0_Q a0 r .ret ⟨[A, A, vi .i64 (22 : Int), A, A, A, A, A, A, A, A, A, A, A, A, A, A, A, A, A, A, A, A, A, A, A, A, A, A, A, A, A, A, A, A, A, A, A, A, A, A, A, A, A, A, A], [], 0⟩))) ∧ ((!((bt a0 x3) == (45 : Int))) = false → (U ∧ (U ∧ (U) ∧ (((U) ∧ (U) ∧ U) ∧ TripN cfg (cpath (Tryz.f28.body.getD .skip) [1, 1, 1, 0, 1, 0, 0]) n (halterref16_Check.l0_S a0 (IntKind.wrap .i64 (x3 + (1 : Int)))) (halterref16_Check.l0_Q a0 r))))))))) ∧ (((bt a0 x3) == (95 : Int)) = true → (((bt a0 x3) == (95 : Int)) = true ∧ (((bt a0 x3) == (95 : Int)) = true ∧ (false = false ∧ (U ∧ (U ∧ (U) ∧ (((U) ∧ (U) ∧ U) ∧ TripN cfg (cpath (Tryz.f28.body.getD .skip) [1, 1, 1, 0, 1, 0, 0]) n (halterref16_Check.l0_S a0 (IntKind.wrap .i64 (x3 + (1 : Int)))) (halterref16_Check.l0_Q a0 r)))))))))))) ∧ (((bt a0 x3) == (46 : Int)) = true → (((bt a0 x3) == (46 : Int)) = true ∧ (((bt a0 x3) == (46 : Int)) = true ∧ (true = true ∧ (true = true ∧ (true = true ∧ (false = false ∧ (U ∧ (U ∧ (U) ∧ (((U) ∧ (U) ∧ U) ∧ TripN cfg (cpath (Tryz.f28.body.getD .skip) [1, 1, 1, 0, 1, 0, 0]) n (halterref16_Check.l0_S a0 (IntKind.wrap .i64 (x3 + (1 : Int)))) (halterref16_Check.l0_Q a0 r))))))))))))))) ∧ ((decide ((bt a0 x3) ≤ (57 : Int))) = true → ((decide ((bt a0 x3) ≤ (57 : Int))) = true ∧ ((decide ((bt a0 x3) ≤ (57 : Int))) = true ∧ (true = true ∧ (true = true ∧ (true = true ∧ (true = true ∧ (true = true ∧ (true = true ∧ (false = false ∧ (U ∧ (U ∧ (U) ∧ (((U) ∧ (U) ∧ U) ∧ TripN cfg (cpath (Tryz.f28.body.getD .skip) [1, 1, 1, 0, 1, 0, 0]) n (halterref16_Check.l0_S a0 (IntKind.wrap .i64 (x3 + (1 : Int)))) (halterref16_Check.l0_Q a0 r)))))))))))))))))))) ∧ ((decide ((bt a0 x3) ≥ (48 : Int))) = false → ((decide ((bt a0 x3) ≥ (48 : Int))) = false ∧ (false = false ∧ ((decide ((bt a0 x3) ≥ (48 : Int))) = false ∧ (false = false ∧ (false = false ∧ (false = false ∧ (U) ∧ (false = false ∧ ((((bt a0 x3) == (46 : Int)) = false → (((bt a0 x3) == (46 : Int)) = false ∧ (U) ∧ (((bt a0 x3) == (46 : Int)) = false ∧ ((((bt a0 x3) == (95 : Int)) = false → (((bt a0 x3) == (95 : Int)) = false ∧ (U) ∧ (((bt a0 x3) == (95 : Int)) = false ∧ (((!((bt a0 x3) == (45 : Int))) = true → (U ∧ (((U) ∧ (U) ∧ U) ∧ halterref16_Check.l0_Q a0 r .ret ⟨[A, A, vi .i64 (22 : Int), A, A, A, A, A, A, A, A, A, A, A, A, A, A, A, A, A, A, A, A, A, A, A, A, A, A, A, A, A, A, A, A, A, A, A, A, A, A, A, A, A, A, A], [], 0⟩))) ∧ ((!((bt a0 x3) == (45 : Int))) = false → (U ∧ (U ∧ (U) ∧ (((U) ∧ (U) ∧ U) ∧ TripN cfg (cpath (Tryz.f28.body.getD .skip) [1, 1, 1, 0, 1, 0, 0]) n (halterref16_Check.l0_S a0 (IntKind.wrap .i64 (x3 + (1 : Int)))) (halterref16_Check.l0_Q a0 r))))))))) ∧ (((bt a0 x3) == (95 : Int)) = true → (((bt a0 x3) == (95 : Int)) = true ∧ (((bt a0 x3) == (95 : Int)) = true ∧ (false = false ∧ (U ∧ (U ∧ (U) ∧ (((U) ∧ (U) ∧ U) ∧ TripN cfg (cpath (Tryz.f28.body.getD .skip) [1, 1, 1, 0, 1, 0, 0]) n (halterref16_Check.l0_S a0 (IntKind.wrap .i64 (x3 + (1 : Int)))) (halterref16_Check.l0_Q a0 r)))))))))))) ∧ (((bt a0 x3) == (46 : Int)) = true → (((bt a0 x3) == (46 : Int)) = true ∧ (((bt a0 x3) == (46 : Int)) = true ∧ (true = true ∧ (true = true ∧ (true = true ∧ (false = false ∧ (U ∧ (U ∧ (U) ∧ (((U) ∧ (U) ∧ U) ∧ TripN cfg (cpath (Tryz.f28.body.getD .skip) [1, 1, 1, 0, 1, 0, 0]) n (halterref16_Check.l0_S a0 (IntKind.wrap .i64 (x3 + (1 : Int)))) (halterref16_Check.l0_Q a0 r))))))))))))))))))))))))))))) ∧ ((decide (x3 < ((ByteArray.size a0 : Nat) : Int))) = false → (((U) ∧ (U) ∧ U) ∧ halterref16_Check.l0_Q a0 r (.exit 0) ⟨[A, A, A, A, A, A, A, A, A, A, A, A, A, A, A, A, A, A, A, A, A, A, A, A, A, A, A, A, A, A, A, A, A, A, A, A, A, A, A, A, A, A, A, A, A, A], [], 0⟩)))) (by kernel_rfl) ?_)
    refine ⟨T, T, ?_⟩
    refine ⟨fun b25 => ?_, fun b25 => ?_⟩
    · rw [if_pos (dT_ b25)] at h
      obtain ⟨g44, h⟩ := of_guard h
      refine ⟨g44, ?_⟩
      refine tI ?_
      refine ⟨fun b26 => ?_, fun b26 => ?_⟩
      · rw [if_pos (dT_ b26)] at h
        refine ⟨b26, ?_⟩
        refine tI ?_
        refine ⟨b26, ?_⟩
        refine ⟨fun b27 => ?_, fun b27 => ?_⟩
        · rw [if_neg (dF_ b27)] at h
          refine ⟨b27, ?_⟩
          refine tI ?_
          refine ⟨b27, ?_⟩
          refine ⟨fun b28 => ?_, fun b28 => ?_⟩
          · rw [if_pos (dT_ b28)] at h
            refine ⟨b28, ?_⟩
            refine tI ?_
            refine ⟨b27, ?_⟩
            refine ⟨b28, ?_⟩
            refine ⟨b27, ?_⟩
            refine ⟨fun b29 => ?_, fun b29 => ?_⟩
            · rw [if_neg (dF_ b29)] at h
              refine ⟨b29, ?_⟩
              refine tI ?_
              refine ⟨b29, ?_⟩
              refine ⟨fun b30 => ?_, fun b30 => ?_⟩
              · rw [if_neg (beq_f b30)] at h
                refine ⟨b30, ?_⟩
                refine tI ?_
                refine ⟨b30, ?_⟩
                refine ⟨fun b31 => ?_, fun b31 => ?_⟩
                · rw [if_neg (beq_f b31)] at h
                  refine ⟨b31, ?_⟩
                  refine tI ?_
                  refine ⟨b31, ?_⟩
                  refine ⟨fun b32 => ?_, fun b32 => ?_⟩
                  · rw [if_pos (beq_f (not_t b32))] at h
                    refine tI ?_
                    obtain rfl := oi h
                    exact ⟨⟨T, T, T⟩, rfl, rfl⟩
                  · rw [if_neg (not_not_intro (beq_t (not_f b32)))] at h
                    refine ⟨T, T, T, ?_⟩
                    exact ⟨⟨T, T, T⟩, ih (IntKind.wrap .i64 (x3 + (1 : Int))) r h⟩
                · rw [if_pos (beq_t b31)] at h
                  refine ⟨b31, ?_⟩
                  refine ⟨b31, ?_⟩
                  refine ⟨rfl, T, T, T, ?_⟩
                  exact ⟨⟨T, T, T⟩, ih (IntKind.wrap .i64 (x3 + (1 : Int))) r h⟩
              · rw [if_pos (beq_t b30)] at h
                refine ⟨b30, ?_⟩
                refine ⟨b30, ?_⟩
                refine ⟨rfl, rfl, rfl, rfl, T, T, T, ?_⟩
                exact ⟨⟨T, T, T⟩, ih (IntKind.wrap .i64 (x3 + (1 : Int))) r h⟩
            · rw [if_pos (dT_ b29)] at h
              refine ⟨b29, ?_⟩
              refine ⟨b29, ?_⟩
              refine ⟨rfl, rfl, rfl, rfl, rfl, rfl, rfl, T, T, T, ?_⟩
              exact ⟨⟨T, T, T⟩, ih (IntKind.wrap .i64 (x3 + (1 : Int))) r h⟩
          · rw [if_neg (dF_ b28)] at h
            refine ⟨b28, ?_⟩
            refine ⟨b27, ?_⟩
            refine ⟨b28, ?_⟩
            refine ⟨b27, ?_⟩
            refine ⟨rfl, rfl, T, rfl, ?_⟩
            refine ⟨fun b33 => ?_, fun b33 => ?_⟩
            · rw [if_neg (beq_f b33)] at h
              refine ⟨b33, ?_⟩
              refine tI ?_
              refine ⟨b33, ?_⟩
              refine ⟨fun b34 => ?_, fun b34 => ?_⟩
              · rw [if_neg (beq_f b34)] at h
                refine ⟨b34, ?_⟩
                refine tI ?_
                refine ⟨b34, ?_⟩
                refine ⟨fun b35 => ?_, fun b35 => ?_⟩
                · rw [if_pos (beq_f (not_t b35))] at h
                  refine tI ?_
                  obtain rfl := oi h
                  exact ⟨⟨T, T, T⟩, rfl, rfl⟩
                · rw [if_neg (not_not_intro (beq_t (not_f b35)))] at h
                  refine ⟨T, T, T, ?_⟩
                  exact ⟨⟨T, T, T⟩, ih (IntKind.wrap .i64 (x3 + (1 : Int))) r h⟩
              · rw [if_pos (beq_t b34)] at h
                refine ⟨b34, ?_⟩
                refine ⟨b34, ?_⟩
                refine ⟨rfl, T, T, T, ?_⟩
                exact ⟨⟨T, T, T⟩, ih (IntKind.wrap .i64 (x3 + (1 : Int))) r h⟩
            · rw [if_pos (beq_t b33)] at h
              refine ⟨b33, ?_⟩
              refine ⟨b33, ?_⟩
              refine ⟨rfl, rfl, rfl, rfl, T, T, T, ?_⟩
              exact ⟨⟨T, T, T⟩, ih (IntKind.wrap .i64 (x3 + (1 : Int))) r h⟩
        · rw [if_pos (dT_ b27)] at h
          refine ⟨b27, ?_⟩
          refine ⟨b27, ?_⟩
          refine ⟨b27, ?_⟩
          refine ⟨b27, ?_⟩
          refine ⟨rfl, rfl, rfl, rfl, rfl, rfl, rfl, rfl, rfl, rfl, T, T, T, ?_⟩
          exact ⟨⟨T, T, T⟩, ih (IntKind.wrap .i64 (x3 + (1 : Int))) r h⟩
      · rw [if_neg (dF_ b26)] at h
        refine ⟨b26, ?_⟩
        refine ⟨b26, ?_⟩
        refine ⟨rfl, rfl, T, rfl, ?_⟩
        refine ⟨fun b36 => ?_, fun b36 => ?_⟩
        · rw [if_pos (dT_ b36)] at h
          refine ⟨b36, ?_⟩
          refine ⟨T, rfl, ?_⟩
          refine ⟨b36, ?_⟩
          refine ⟨rfl, ?_⟩
          refine ⟨fun b37 => ?_, fun b37 => ?_⟩
          · rw [if_neg (dF_ b37)] at h
            refine ⟨b37, ?_⟩
            refine tI ?_
            refine ⟨b37, ?_⟩
            refine ⟨fun b38 => ?_, fun b38 => ?_⟩
            · rw [if_neg (beq_f b38)] at h
              refine ⟨b38, ?_⟩
              refine tI ?_
              refine ⟨b38, ?_⟩
              refine ⟨fun b39 => ?_, fun b39 => ?_⟩
              · rw [if_neg (beq_f b39)] at h
                refine ⟨b39, ?_⟩
                refine tI ?_
                refine ⟨b39, ?_⟩
                refine ⟨fun b40 => ?_, fun b40 => ?_⟩
                · rw [if_pos (beq_f (not_t b40))] at h
                  refine tI ?_
                  obtain rfl := oi h
                  exact ⟨⟨T, T, T⟩, rfl, rfl⟩
                · rw [if_neg (not_not_intro (beq_t (not_f b40)))] at h
                  refine ⟨T, T, T, ?_⟩
                  exact ⟨⟨T, T, T⟩, ih (IntKind.wrap .i64 (x3 + (1 : Int))) r h⟩
              · rw [if_pos (beq_t b39)] at h
                refine ⟨b39, ?_⟩
                refine ⟨b39, ?_⟩
                refine ⟨rfl, T, T, T, ?_⟩
                exact ⟨⟨T, T, T⟩, ih (IntKind.wrap .i64 (x3 + (1 : Int))) r h⟩
            · rw [if_pos (beq_t b38)] at h
              refine ⟨b38, ?_⟩
              refine ⟨b38, ?_⟩
              refine ⟨rfl, rfl, rfl, rfl, T, T, T, ?_⟩
              exact ⟨⟨T, T, T⟩, ih (IntKind.wrap .i64 (x3 + (1 : Int))) r h⟩
          · rw [if_pos (dT_ b37)] at h
            refine ⟨b37, ?_⟩
            refine ⟨b37, ?_⟩
            refine ⟨rfl, rfl, rfl, rfl, rfl, rfl, rfl, T, T, T, ?_⟩
            exact ⟨⟨T, T, T⟩, ih (IntKind.wrap .i64 (x3 + (1 : Int))) r h⟩
        · rw [if_neg (dF_ b36)] at h
          refine ⟨b36, ?_⟩
          refine ⟨rfl, ?_⟩
          refine ⟨b36, ?_⟩
          refine ⟨rfl, rfl, rfl, T, rfl, ?_⟩
          refine ⟨fun b41 => ?_, fun b41 => ?_⟩
          · rw [if_neg (beq_f b41)] at h
            refine ⟨b41, ?_⟩
            refine tI ?_
            refine ⟨b41, ?_⟩
            refine ⟨fun b42 => ?_, fun b42 => ?_⟩
            · rw [if_neg (beq_f b42)] at h
              refine ⟨b42, ?_⟩
              refine tI ?_
              refine ⟨b42, ?_⟩
              refine ⟨fun b43 => ?_, fun b43 => ?_⟩
              · rw [if_pos (beq_f (not_t b43))] at h
                refine tI ?_
                obtain rfl := oi h
                exact ⟨⟨T, T, T⟩, rfl, rfl⟩
              · rw [if_neg (not_not_intro (beq_t (not_f b43)))] at h
                refine ⟨T, T, T, ?_⟩
                exact ⟨⟨T, T, T⟩, ih (IntKind.wrap .i64 (x3 + (1 : Int))) r h⟩
            · rw [if_pos (beq_t b42)] at h
              refine ⟨b42, ?_⟩
              refine ⟨b42, ?_⟩
              refine ⟨rfl, T, T, T, ?_⟩
              exact ⟨⟨T, T, T⟩, ih (IntKind.wrap .i64 (x3 + (1 : Int))) r h⟩
          · rw [if_pos (beq_t b41)] at h
            refine ⟨b41, ?_⟩
            refine ⟨b41, ?_⟩
            refine ⟨rfl, rfl, rfl, rfl, T, T, T, ?_⟩
            exact ⟨⟨T, T, T⟩, ih (IntKind.wrap .i64 (x3 + (1 : Int))) r h⟩
    · rw [if_neg (dF_ b25)] at h
      obtain rfl := oi h
      exact ⟨⟨T, T, T⟩, rfl, rfl⟩
def halterref16_Check.f (a0 : ByteArray) : Option Int :=
  if a0 = ByteArray.empty then
    some (2 : Int)
  else
    if ((ByteArray.size a0 : Nat) : Int) > (16 : Int) then
      some (36 : Int)
    else
      (halterref16_Check.l0 a0 FUEL (0 : Int)).bind fun t24 =>
      match t24 with
      | .inl t45 =>
        some (0 : Int)
      | .inr t46 =>
        some (22 : Int)
def halterref16_Check.R (r : Int) : Tm := vi .i64 r
theorem halterref16_Check.fun_ {a0 : ByteArray} {r : Int} (h : halterref16_Check.f a0 = some r) : Fun cfg 28 [.one (.sc (.string a0))] [] (halterref16_Check.R r) [] := by
  unfold halterref16_Check.f at h
  refine fun_of_run cfg_ok (f := 28) (fn := Tryz.f28) Tryz.func28 rfl (by kernel_rfl) (rs := [.tmp 2]) rfl (nt := 46) rfl (l := fin) (k := (.br (aE 3 .nil) (.br (aE 3 .nil) (aE 3 (.adj [.keep [0, 3]] (.alt (.sub (Unit) (fun _ => (.exit 0)) (fun t45 => ⟨[A, A, A, A, A, A, A, A, A, A, A, A, A, A, A, A, A, A, A, A, A, A, A, A, A, A, A, A, A, A, A, A, A, A, A, A, A, A, A, A, A, A, A, A, A, A], [], 0⟩) (fun t45 => (aE 3 .nil))) (.sub (Unit) (fun _ => .ret) (fun t46 => ⟨[A, A, vi .i64 (22 : Int), A, A, A, A, A, A, A, A, A, A, A, A, A, A, A, A, A, A, A, A, A, A, A, A, A, A, A, A, A, A, A, A, A, A, A, A, A, A, A, A, A, A, A], [], 0⟩) (fun t46 => (.adj [] .nil))))))))) (to_goal (q := (U) ∧ (((a0.toList == ByteArray.empty.toList) = true → (U ∧ (U ∧ ((U) ∧ (U) ∧ (vi .i64 (2 : Int) : Tm) = halterref16_Check.R r ∧ ([] : List Box) = [])))) ∧ ((a0.toList == ByteArray.empty.toList) = false → (U) ∧ (U) ∧ (((decide (((ByteArray.size a0 : Nat) : Int) > (16 : Int))) = true → (U ∧ (U ∧ ((U) ∧ (U) ∧ (vi .i64 (36 : Int) : Tm) = halterref16_Check.R r ∧ ([] : List Box) = [])))) ∧ ((decide (((ByteArray.size a0 : Nat) : Int) > (16 : Int))) = false → (U ∧ (U ∧ (U ∧ (((U) ∧ U) ∧ ((∃ t45 : Unit, Trip cfg (.loop (cpath (Tryz.f28.body.getD .skip) [1, 1, 1, 0, 1, 0, 0])) ⟨[.v (.one (.sc (.string a0))), A, A, vi .i64 (0 : Int), A, A, A, A, A, A, A, A, A, A, A, A, A, A, A, A, A, A, A, A, A, A, A, A, A, A, A, A, A, A, A, A, A, A, A, A, A, A, A, A, A, A], [], 0⟩ (fun e s => e = (.exit 0) ∧ s = ⟨[A, A, A, A, A, A, A, A, A, A, A, A, A, A, A, A, A, A, A, A, A, A, A, A, A, A, A, A, A, A, A, A, A, A, A, A, A, A, A, A, A, A, A, A, A, A], [], 0⟩) ∧ (U ∧ (U ∧ ((U) ∧ (U) ∧ (vi .i64 (0 : Int) : Tm) = halterref16_Check.R r ∧ ([] : List Box) = [])))) ∨ (∃ t46 : Unit, Trip cfg (.loop (cpath (Tryz.f28.body.getD .skip) [1, 1, 1, 0, 1, 0, 0])) ⟨[.v (.one (.sc (.string a0))), A, A, vi .i64 (0 : Int), A, A, A, A, A, A, A, A, A, A, A, A, A, A, A, A, A, A, A, A, A, A, A, A, A, A, A, A, A, A, A, A, A, A, A, A, A, A, A, A, A, A], [], 0⟩ (fun e s => e = .ret ∧ s = ⟨[A, A, vi .i64 (22 : Int), A, A, A, A, A, A, A, A, A, A, A, A, A, A, A, A, A, A, A, A, A, A, A, A, A, A, A, A, A, A, A, A, A, A, A, A, A, A, A, A, A, A, A], [], 0⟩) ∧ ((U) ∧ (U) ∧ (vi .i64 (22 : Int) : Tm) = halterref16_Check.R r ∧ ([] : List Box) = [])))))))))))) (by kernel_rfl) ?_)
  refine tI ?_
  refine ⟨fun b1 => ?_, fun b1 => ?_⟩
  · rw [if_pos (str_t b1)] at h
    refine ⟨T, T, ?_⟩
    obtain rfl := oi h
    exact ⟨T, T, rfl, rfl⟩
  · rw [if_neg (str_f b1)] at h
    refine ⟨T, T, ?_⟩
    refine ⟨fun b2 => ?_, fun b2 => ?_⟩
    · rw [if_pos (dT_ b2)] at h
      refine ⟨T, T, ?_⟩
      obtain rfl := oi h
      exact ⟨T, T, rfl, rfl⟩
    · rw [if_neg (dF_ b2)] at h
      refine ⟨T, T, T, ?_⟩
      obtain ⟨t24, ht24, h⟩ := of_bind h
      refine ⟨⟨T, T⟩, ?_⟩
      rcases t24 with t45 | t46
      · dsimp only at h
        left
        refine ⟨t45, Trip.loop FUEL (halterref16_Check.l0_ok a0 FUEL (0 : Int) (.inl t45) ht24), ?_⟩
        refine ⟨T, T, ?_⟩
        obtain rfl := oi h
        exact ⟨T, T, rfl, rfl⟩
      · dsimp only at h
        right
        refine ⟨t46, Trip.loop FUEL (halterref16_Check.l0_ok a0 FUEL (0 : Int) (.inr t46) ht24), ?_⟩
        obtain rfl := oi h
        exact ⟨T, T, rfl, rfl⟩
/-! halter/halterref20.May -/
def halterref20_May.l0 (a0 : (List Int)) : Nat → Int → Option ((Unit) ⊕ (Unit))
  | 0, _ => none
  | n + 1, x1 =>
    if x1 < (8 : Int) then
      if 0 ≤ x1 ∧ x1 < ((8 : Nat) : Int) then
        if (Int.toNat x1) < 8 then
          if (List.getD a0 (Int.toNat x1) (0 : Int)) < (0 : Int) then
            some (.inr ())
          else
            if 0 ≤ x1 ∧ x1 < ((8 : Nat) : Int) then
              if (Int.toNat x1) < 8 then
                if (List.getD a0 (Int.toNat x1) (0 : Int)) > (32 : Int) then
                  some (.inr ())
                else
                  halterref20_May.l0 a0 n (IntKind.wrap .i64 (x1 + (1 : Int)))
              else none
            else none
        else none
      else none
    else
      some (.inl ())
def halterref20_May.l0_S (a0 : (List Int)) (x1 : Int) : St := ⟨[A, .v (.one (.ptr 0 ⟨0, 0, 0, 0⟩)), A, vi .i64 x1, A, A, A, A, A, A, A, A, A, A, A, A, A, A], [.ex false [.row 8 (.int .i64) a0] 28], 0⟩
def halterref20_May.l0_Q (a0 : (List Int)) : (Unit) ⊕ (Unit) → Exit → St → Prop
  | .inl t => fun e s => e = (.exit 0) ∧ s = ⟨[A, A, A, A, A, A, A, A, A, A, A, A, A, A, A, A, A, A], [.ex false [.row 8 (.int .i64) a0] 28], 0⟩
  | .inr t => fun e s => e = .ret ∧ s = ⟨[A, A, .v (.one (.sc (.bool false))), A, A, A, A, A, A, A, A, A, A, A, A, A, A, A], [.ex false [.row 8 (.int .i64) a0] 28], 0⟩
theorem halterref20_May.l0_ok (a0 : (List Int)) : ∀ (n : Nat) (x1 : Int) (r : (Unit) ⊕ (Unit)), halterref20_May.l0 a0 n x1 = some r → TripN cfg (cpath (Tryz.f41.body.getD .skip) [1, 0, 1, 0, 0]) n (halterref20_May.l0_S a0 x1) (halterref20_May.l0_Q a0 r) := by
  intro n
  induction n with
  | zero => intro x1 r h; cases h
  | succ n ih =>
    intro x1 r h
    rw [halterref20_May.l0] at h
    refine TripN.of_run cfg_ok (k := (.br (.br (oT 5 (.adj [] (.adj [.keep [2], .drop 1] .nil))) (oF 4 (.br (.adj [] (.adj [.keep [2], .drop 1] .nil)) (aE 2 (.adj [.keep [1, 3], .drop 1] .nil))))) (.adj [.keep [], .drop 1] .nil))) (to_goal (q := (U) ∧ (((decide (x1 < (8 : Int))) = true → (0 ≤ x1 ∧ x1 < ((8 : Nat) : Int)) ∧ ((Int.toNat x1) < 8) ∧ (U) ∧ (((decide ((List.getD a0 (Int.toNat x1) (0 : Int)) < (0 : Int))) = false → ((decide ((List.getD a0 (Int.toNat x1) (0 : Int)) < (0 : Int))) = false ∧ (0 ≤ x1 ∧ x1 < ((8 : Nat) : Int)) ∧ ((decide ((List.getD a0 (Int.toNat x1) (0 : Int)) < (0 : Int))) = false ∧ ((Int.toNat x1) < 8) ∧ ((decide ((List.getD a0 (Int.toNat x1) (0 : Int)) < (0 : Int))) = false ∧ (U) ∧ ((decide ((List.getD a0 (Int.toNat x1) (0 : Int)) < (0 : Int))) = false ∧ (((decide ((List.getD a0 (Int.toNat x1) (0 : Int)) > (32 : Int))) = true → (U ∧ (((U) ∧ (U) ∧ U) ∧ halterref20_May.l0_Q a0 r .ret ⟨[A, A, .v (.one (.sc (.bool false))), A, A, A, A, A, A, A, A, A, A, A, A, A, A, A], [.ex false [.row 8 (.int .i64) a0] 28], 0⟩))) ∧ ((decide ((List.getD a0 (Int.toNat x1) (0 : Int)) > (32 : Int))) = false → (U ∧ (U ∧ (U) ∧ (((U) ∧ (U) ∧ U) ∧ TripN cfg (cpath (Tryz.f41.body.getD .skip) [1, 0, 1, 0, 0]) n (halterref20_May.l0_S a0 (IntKind.wrap .i64 (x1 + (1 : Int)))) (halterref20_May.l0_Q a0 r))))))))))) ∧ ((decide ((List.getD a0 (Int.toNat x1) (0 : Int)) < (0 : Int))) = true → ((decide ((List.getD a0 (Int.toNat x1) (0 : Int)) < (0 : Int))) = true ∧ ((decide ((List.getD a0 (Int.toNat x1) (0 : Int)) < (0 : Int))) = true ∧ ((decide ((List.getD a0 (Int.toNat x1) (0 : Int)) < (0 : Int))) = true ∧ ((decide ((List.getD a0 (Int.toNat x1) (0 : Int)) < (0 : Int))) = true ∧ (true = true ∧ (U ∧ (((U) ∧ (U) ∧ U) ∧ halterref20_May.l0_Q a0 r .ret ⟨[A, A, .v (.one (.sc (.bool false))), A, A, A, A, A, A, A, A, A, A, A, A, A, A, A], [.ex false [.row 8 (.int .i64) a0] 28], 0⟩)))))))))) ∧ ((decide (x1 < (8 : Int))) = false → (((U) ∧ (U) ∧ U) ∧ halterref20_May.l0_Q a0 r (.exit 0) ⟨[A, A, A, A, A, A, A, A, A, A, A, A, A, A, A, A, A, A], [.ex false [.row 8 (.int .i64) a0] 28], 0⟩)))) (by kernel_rfl) ?_)
    refine tI ?_
    refine ⟨fun b10 => ?_, fun b10 => ?_⟩
    · rw [if_pos (dT_ b10)] at h
      obtain ⟨g16, h⟩ := of_guard h
      refine ⟨g16, ?_⟩
      obtain ⟨g15, h⟩ := of_guard h
      refine ⟨g15, ?_⟩
      refine tI ?_
      refine ⟨fun b11 => ?_, fun b11 => ?_⟩
      · rw [if_neg (dF_ b11)] at h
        refine ⟨b11, ?_⟩
        obtain ⟨g14, h⟩ := of_guard h
        refine ⟨g14, ?_⟩
        refine ⟨b11, ?_⟩
        obtain ⟨g13, h⟩ := of_guard h
        refine ⟨g13, ?_⟩
        refine ⟨b11, ?_⟩
        refine tI ?_
        refine ⟨b11, ?_⟩
        refine ⟨fun b12 => ?_, fun b12 => ?_⟩
        · rw [if_pos (dT_ b12)] at h
          refine tI ?_
          obtain rfl := oi h
          exact ⟨⟨T, T, T⟩, rfl, rfl⟩
        · rw [if_neg (dF_ b12)] at h
          refine ⟨T, T, T, ?_⟩
          exact ⟨⟨T, T, T⟩, ih (IntKind.wrap .i64 (x1 + (1 : Int))) r h⟩
      · rw [if_pos (dT_ b11)] at h
        refine ⟨b11, ?_⟩
        refine ⟨b11, ?_⟩
        refine ⟨b11, ?_⟩
        refine ⟨b11, ?_⟩
        refine ⟨rfl, T, ?_⟩
        obtain rfl := oi h
        exact ⟨⟨T, T, T⟩, rfl, rfl⟩
    · rw [if_neg (dF_ b10)] at h
      obtain rfl := oi h
      exact ⟨⟨T, T, T⟩, rfl, rfl⟩
def halterref20_May.f (a0 : (List Int)) : Option Bool :=
  (halterref20_May.l0 a0 FUEL (0 : Int)).bind fun t9 =>
  match t9 with
  | .inl t17 =>
    some true
  | .inr t18 =>
    some false
def halterref20_May.R (r : Bool) : Tm := .v (.one (.sc (.bool r)))
theorem halterref20_May.fun_ {a0 : (List Int)} {r : Bool} (h : halterref20_May.f a0 = some r) : Fun cfg 41 [.agg [.row 8 (.int .i64) a0]] [] (halterref20_May.R r) [] := by
  unfold halterref20_May.f at h
  refine fun_of_run cfg_ok (f := 41) (fn := Tryz.f41) Tryz.func41 rfl (by kernel_rfl) (rs := [.tmp 2]) rfl (nt := 18) rfl (l := fin) (k := (aE 3 (.adj [.keep [1, 3]] (.alt (.sub (Unit) (fun _ => (.exit 0)) (fun t17 => ⟨[A, A, A, A, A, A, A, A, A, A, A, A, A, A, A, A, A, A], [.ex false [.row 8 (.int .i64) a0] 28], 0⟩) (fun t17 => (aE 2 (.adj [.drop 0] .nil)))) (.sub (Unit) (fun _ => .ret) (fun t18 => ⟨[A, A, .v (.one (.sc (.bool false))), A, A, A, A, A, A, A, A, A, A, A, A, A, A, A], [.ex false [.row 8 (.int .i64) a0] 28], 0⟩) (fun t18 => (.adj [.drop 0] .nil))))))) (to_goal (q := (U ∧ (U ∧ (U ∧ (((U) ∧ U) ∧ ((∃ t17 : Unit, Trip cfg (.loop (cpath (Tryz.f41.body.getD .skip) [1, 0, 1, 0, 0])) ⟨[A, .v (.one (.ptr 0 ⟨0, 0, 0, 0⟩)), A, vi .i64 (0 : Int), A, A, A, A, A, A, A, A, A, A, A, A, A, A], [.ex false [.row 8 (.int .i64) a0] 28], 0⟩ (fun e s => e = (.exit 0) ∧ s = ⟨[A, A, A, A, A, A, A, A, A, A, A, A, A, A, A, A, A, A], [.ex false [.row 8 (.int .i64) a0] 28], 0⟩) ∧ (U ∧ (U ∧ ((U) ∧ ((U) ∧ U) ∧ (.v (.one (.sc (.bool true))) : Tm) = halterref20_May.R r ∧ ([] : List Box) = [])))) ∨ (∃ t18 : Unit, Trip cfg (.loop (cpath (Tryz.f41.body.getD .skip) [1, 0, 1, 0, 0])) ⟨[A, .v (.one (.ptr 0 ⟨0, 0, 0, 0⟩)), A, vi .i64 (0 : Int), A, A, A, A, A, A, A, A, A, A, A, A, A, A], [.ex false [.row 8 (.int .i64) a0] 28], 0⟩ (fun e s => e = .ret ∧ s = ⟨[A, A, .v (.one (.sc (.bool false))), A, A, A, A, A, A, A, A, A, A, A, A, A, A, A], [.ex false [.row 8 (.int .i64) a0] 28], 0⟩) ∧ ((U) ∧ ((U) ∧ U) ∧ (.v (.one (.sc (.bool false))) : Tm) = halterref20_May.R r ∧ ([] : List Box) = [])))))))) (by kernel_rfl) ?_)
  refine ⟨T, T, T, ?_⟩
  obtain ⟨t9, ht9, h⟩ := of_bind h
  refine ⟨⟨T, T⟩, ?_⟩
  rcases t9 with t17 | t18
  · dsimp only at h
    left
    refine ⟨t17, Trip.loop FUEL (halterref20_May.l0_ok a0 FUEL (0 : Int) (.inl t17) ht9), ?_⟩
    refine ⟨T, T, ?_⟩
    obtain rfl := oi h
    exact ⟨T, ⟨T, T⟩, rfl, rfl⟩
  · dsimp only at h
    right
    refine ⟨t18, Trip.loop FUEL (halterref20_May.l0_ok a0 FUEL (0 : Int) (.inr t18) ht9), ?_⟩
    obtain rfl := oi h
    exact ⟨T, ⟨T, T⟩, rfl, rfl⟩
/-! halter/halterref03.List -/
def halterref03_List.l0 : Nat → (List Int) → Int → Int → Option (List Int)
  | 0, _, _, _ => none
  | n + 1, x10, x11, x12 =>
    if x12 ≤ (31 : Int) then
      if (Int.tmod x11 (2 : Int)) = (1 : Int) then
        if (0 = 0 ∧ 1 = 1) ∧ 0 = 0 ∧ (List.length x10) = (List.length x10) ∧ (((List.length x10) + 1) * 8 ≤ 140737488355328 ∧ (List.length x10) + 1 ≤ 9223372036854775807) then
          halterref03_List.l0 n (x10 ++ [x12]) (IntKind.wrap .u32 (Int.tdiv x11 (2 : Int))) (IntKind.wrap .i64 (x12 + (1 : Int)))
        else none
      else
        halterref03_List.l0 n x10 (IntKind.wrap .u32 (Int.tdiv x11 (2 : Int))) (IntKind.wrap .i64 (x12 + (1 : Int)))
    else
      some x10
def halterref03_List.l0_S (x10 : List Int) (x11 : Int) (x12 : Int) : St := ⟨[vi .u32 x11, A, A, .v (.one (.os 0 0 0 1 (List.length x10) none)), vi .i64 x12, A, A, A, A, A, A, A, A, A, A, A, A, A, A], [.gro false (.int .i64) x10 3], 0⟩
def halterref03_List.l0_Q (t : (List Int)) : Exit → St → Prop := fun e s => e = (.exit 0) ∧ s = ⟨[A, A, A, .v (.one (.os 0 0 0 1 (List.length t) none)), A, A, A, A, A, A, A, A, A, A, A, A, A, A, A], [.gro false (.int .i64) t 3], 0⟩
theorem halterref03_List.l0_ok : ∀ (n : Nat) (x10 : List Int) (x11 : Int) (x12 : Int) (r : (List Int)), halterref03_List.l0 n x10 x11 x12 = some r → TripN cfg (cpath (Tryz.f66.body.getD .skip) [1, 1, 0, 1, 0, 0]) n (halterref03_List.l0_S x10 x11 x12) (halterref03_List.l0_Q r) := by
  intro n
  induction n with
  | zero => intro x10 x11 x12 r h; cases h
  | succ n ih =>
    intro x10 x11 x12 r h
    rw [halterref03_List.l0] at h
    refine TripN.of_run cfg_ok (k := (.br (.br (.d .no (.d (.b true) (aE 2 (.adj [.keep [0, 3, 4], .drop 1] .nil)))) (aE 3 (.adj [.keep [0, 3, 4], .drop 1] .nil))) (.adj [.keep [3], .drop 1] .nil))) (to_goal (q := (U) ∧ (((decide (x12 ≤ (31 : Int))) = true → ((2 : Int) ≠ 0) ∧ (U) ∧ ((((Int.tmod x11 (2 : Int)) == (1 : Int)) = true → ((0 = 0 ∧ 1 = 1) ∧ 0 = 0 ∧ (List.length x10) = (List.length x10) ∧ (((List.length x10) + 1) * 8 ≤ 140737488355328 ∧ (List.length x10) + 1 ≤ 9223372036854775807)) ∧ (U ∧ ((2 : Int) ≠ 0) ∧ (U ∧ (U) ∧ (((U) ∧ (U) ∧ U) ∧ TripN cfg (cpath (Tryz.f66.body.getD .skip) [1, 1, 0, 1, 0, 0]) n (halterref03_List.l0_S (x10 ++ [x12]) (IntKind.wrap .u32 (Int.tdiv x11 (2 : Int))) (IntKind.wrap .i64 (x12 + (1 : Int)))) (halterref03_List.l0_Q r))))) ∧ (((Int.tmod x11 (2 : Int)) == (1 : Int)) = false → (U ∧ (U ∧ ((2 : Int) ≠ 0) ∧ (U ∧ (U) ∧ (((U) ∧ (U) ∧ U) ∧ TripN cfg (cpath (Tryz.f66.body.getD .skip) [1, 1, 0, 1, 0, 0]) n (halterref03_List.l0_S x10 (IntKind.wrap .u32 (Int.tdiv x11 (2 : Int))) (IntKind.wrap .i64 (x12 + (1 : Int)))) (halterref03_List.l0_Q r)))))))) ∧ ((decide (x12 ≤ (31 : Int))) = false → (((U) ∧ (U) ∧ U) ∧ halterref03_List.l0_Q r (.exit 0) ⟨[A, A, A, .v (.one (.os 0 0 0 1 (List.length x10) none)), A, A, A, A, A, A, A, A, A, A, A, A, A, A, A], [.gro false (.int .i64) x10 3], 0⟩)))) (by kernel_rfl) ?_)
    refine tI ?_
    refine ⟨fun b18 => ?_, fun b18 => ?_⟩
    · rw [if_pos (dT_ b18)] at h
      refine ⟨(by decide), ?_⟩
      refine tI ?_
      refine ⟨fun b19 => ?_, fun b19 => ?_⟩
      · rw [if_pos (beq_t b19)] at h
        obtain ⟨g20, h⟩ := of_guard h
        refine ⟨g20, ?_⟩
        refine tI ?_
        refine ⟨(by decide), ?_⟩
        refine ⟨T, T, ?_⟩
        exact ⟨⟨T, T, T⟩, ih (x10 ++ [x12]) (IntKind.wrap .u32 (Int.tdiv x11 (2 : Int))) (IntKind.wrap .i64 (x12 + (1 : Int))) r h⟩
      · rw [if_neg (beq_f b19)] at h
        refine ⟨T, T, ?_⟩
        refine ⟨(by decide), ?_⟩
        refine ⟨T, T, ?_⟩
        exact ⟨⟨T, T, T⟩, ih x10 (IntKind.wrap .u32 (Int.tdiv x11 (2 : Int))) (IntKind.wrap .i64 (x12 + (1 : Int))) r h⟩
    · rw [if_neg (dF_ b18)] at h
      obtain rfl := oi h
      exact ⟨⟨T, T, T⟩, rfl, rfl⟩
def halterref03_List.f (a0 : Int) : Option (List Int) :=
  (halterref03_List.l0 FUEL ([] : List Int) a0 (1 : Int)).bind fun t17 =>
  some t17
def halterref03_List.R (r : (List Int)) : Tm := .v (.one (.os 0 0 0 1 (List.length r) none))
def halterref03_List.B (a0 : Int) (r : (List Int)) : List Box := [.gro false (.int .i64) r 3]
theorem halterref03_List.fun_ {a0 : Int} {r : (List Int)} (h : halterref03_List.f a0 = some r) : Fun cfg 66 [.one (.sc (.int .u32 a0))] [] (halterref03_List.R r) (halterref03_List.B a0 r) := by
  unfold halterref03_List.f at h
  refine fun_of_run cfg_ok (f := 66) (fn := Tryz.f66) Tryz.func66 rfl (by kernel_rfl) (rs := [.tmp 2]) rfl (nt := 19) rfl (l := fin) (k := (aE 4 (.adj [.keep [0, 3, 4], .nilGro 3 (.int .i64) 3] (.sub ((List Int)) (fun _ => (.exit 0)) (fun t17 => ⟨[A, A, A, .v (.one (.os 0 0 0 1 (List.length t17) none)), A, A, A, A, A, A, A, A, A, A, A, A, A, A, A], [.gro false (.int .i64) t17 3], 0⟩) (fun t17 => (aE 3 .nil)))))) (to_goal (q := (U ∧ (U ∧ (U ∧ (U ∧ (((U) ∧ (U) ∧ U) ∧ (∃ t17 : (List Int), Trip cfg (.loop (cpath (Tryz.f66.body.getD .skip) [1, 1, 0, 1, 0, 0])) ⟨[vi .u32 a0, A, A, .v (.one (.os 0 0 0 1 0 none)), vi .i64 (1 : Int), A, A, A, A, A, A, A, A, A, A, A, A, A, A], [.gro false (.int .i64) ([] : List Int) 3], 0⟩ (fun e s => e = (.exit 0) ∧ s = ⟨[A, A, A, .v (.one (.os 0 0 0 1 (List.length t17) none)), A, A, A, A, A, A, A, A, A, A, A, A, A, A, A], [.gro false (.int .i64) t17 3], 0⟩) ∧ (U ∧ (U ∧ ((U) ∧ (U) ∧ (.v (.one (.os 0 0 0 1 (List.length t17) none)) : Tm) = halterref03_List.R r ∧ ([.gro false (.int .i64) t17 3] : List Box) = halterref03_List.B a0 r)))))))))) (by kernel_rfl) ?_)
  refine ⟨T, T, T, T, ?_⟩
  obtain ⟨t17, ht17, h⟩ := of_bind h
  refine ⟨⟨T, T, T⟩, t17, Trip.loop FUEL (halterref03_List.l0_ok FUEL ([] : List Int) a0 (1 : Int) t17 ht17), ?_⟩
  refine ⟨T, T, ?_⟩
  obtain rfl := oi h
  exact ⟨T, T, rfl, rfl⟩
/-! halter/halterref03.Has -/
def halterref03_Has.l0 (t1 : (List Int)) (a1 : Int) : Nat → Int → Option ((Unit) ⊕ (Unit))
  | 0, _ => none
  | n + 1, x2 =>
    if x2 < (((List.length t1) : Nat) : Int) then
      if 0 ≤ x2 ∧ x2 < (((List.length t1) : Nat) : Int) then
        if (0 + (Int.toNat x2)) < (List.length t1) then
          if (List.getD t1 (0 + (Int.toNat x2)) (0 : Int)) = a1 then
            some (.inr ())
          else
            halterref03_Has.l0 t1 a1 n (IntKind.wrap .i64 (x2 + (1 : Int)))
        else none
      else none
    else
      some (.inl ())
def halterref03_Has.l0_S (t1 : (List Int)) (a1 : Int) (x2 : Int) : St := ⟨[A, vi .i64 a1, A, A, A, .v (.one (.os 0 0 0 1 (List.length t1) none)), vi .i64 x2, A, A, A, A, A, A, A, A, A, A, A, A, A, A], [.gro false (.int .i64) t1 3], 0⟩
def halterref03_Has.l0_Q (t1 : (List Int)) (a1 : Int) : (Unit) ⊕ (Unit) → Exit → St → Prop
  | .inl t => fun e s => e = (.exit 0) ∧ s = ⟨[A, A, A, A, A, A, A, A, A, A, A, A, A, A, A, A, A, A, A, A, A], [.gro false (.int .i64) t1 3], 0⟩
  | .inr t => fun e s => e = .ret ∧ s = ⟨[A, A, A, A, .v (.one (.sc (.bool true))), A, A, A, A, A, A, A, A, A, A, A, A, A, A, A, A], [.gro false (.int .i64) t1 3], 0⟩
theorem halterref03_Has.l0_ok (t1 : (List Int)) (a1 : Int) : ∀ (n : Nat) (x2 : Int) (r : (Unit) ⊕ (Unit)), halterref03_Has.l0 t1 a1 n x2 = some r → TripN cfg (cpath (Tryz.f51.body.getD .skip) [1, 1, 0, 1, 0, 0]) n (halterref03_Has.l0_S t1 a1 x2) (halterref03_Has.l0_Q t1 a1 r) := by
  intro n
  induction n with
  | zero => intro x2 r h; cases h
  | succ n ih =>
    intro x2 r h
    rw [halterref03_Has.l0] at h
    refine TripN.of_run cfg_ok (k := (.br (.br (.adj [] (.adj [.keep [4], .drop 1] .nil)) (aE 2 (.adj [.keep [1, 5, 6], .drop 1] .nil))) (.adj [.keep [], .drop 1] .nil))) (to_goal (q := (U) ∧ (U) ∧ (((decide (x2 < (((List.length t1) : Nat) : Int))) = true → (0 ≤ x2 ∧ x2 < (((List.length t1) : Nat) : Int)) ∧ ((0 + (Int.toNat x2)) < (List.length t1)) ∧ (U) ∧ ((((List.getD t1 (0 + (Int.toNat x2)) (0 : Int)) == a1) = true → (U ∧ (((U) ∧ (U) ∧ U) ∧ halterref03_Has.l0_Q t1 a1 r .ret ⟨[A, A, A, A, .v (.one (.sc (.bool true))), A, A, A, A, A, A, A, A, A, A, A, A, A, A, A, A], [.gro false (.int .i64) t1 3], 0⟩))) ∧ (((List.getD t1 (0 + (Int.toNat x2)) (0 : Int)) == a1) = false → (U ∧ (U ∧ (U) ∧ (((U) ∧ (U) ∧ U) ∧ TripN cfg (cpath (Tryz.f51.body.getD .skip) [1, 1, 0, 1, 0, 0]) n (halterref03_Has.l0_S t1 a1 (IntKind.wrap .i64 (x2 + (1 : Int)))) (halterref03_Has.l0_Q t1 a1 r))))))) ∧ ((decide (x2 < (((List.length t1) : Nat) : Int))) = false → (((U) ∧ (U) ∧ U) ∧ halterref03_Has.l0_Q t1 a1 r (.exit 0) ⟨[A, A, A, A, A, A, A, A, A, A, A, A, A, A, A, A, A, A, A, A, A], [.gro false (.int .i64) t1 3], 0⟩)))) (by kernel_rfl) ?_)
    refine ⟨T, T, ?_⟩
    refine ⟨fun b8 => ?_, fun b8 => ?_⟩
    · rw [if_pos (dT_ b8)] at h
      obtain ⟨g11, h⟩ := of_guard h
      refine ⟨g11, ?_⟩
      obtain ⟨g10, h⟩ := of_guard h
      refine ⟨g10, ?_⟩
      refine tI ?_
      refine ⟨fun b9 => ?_, fun b9 => ?_⟩
      · rw [if_pos (beq_t b9)] at h
        refine tI ?_
        obtain rfl := oi h
        exact ⟨⟨T, T, T⟩, rfl, rfl⟩
      · rw [if_neg (beq_f b9)] at h
        refine ⟨T, T, T, ?_⟩
        exact ⟨⟨T, T, T⟩, ih (IntKind.wrap .i64 (x2 + (1 : Int))) r h⟩
    · rw [if_neg (dF_ b8)] at h
      obtain rfl := oi h
      exact ⟨⟨T, T, T⟩, rfl, rfl⟩
def halterref03_Has.f (a0 : Int) (a1 : Int) : Option Bool :=
  (halterref03_List.f a0).bind fun t1 =>
  (halterref03_Has.l0 t1 a1 FUEL (0 : Int)).bind fun t7 =>
  match t7 with
  | .inl t12 =>
    some false
  | .inr t13 =>
    some true
def halterref03_Has.R (r : Bool) : Tm := .v (.one (.sc (.bool r)))
theorem halterref03_Has.fun_ {a0 : Int} {a1 : Int} {r : Bool} (h : halterref03_Has.f a0 a1 = some r) : Fun cfg 51 [.one (.sc (.int .u32 a0)), .one (.sc (.int .i64 a1))] [] (halterref03_Has.R r) [] := by
  unfold halterref03_Has.f at h
  refine fun_of_run cfg_ok (f := 51) (fn := Tryz.f51) Tryz.func51 rfl (by kernel_rfl) (rs := [.tmp 4]) rfl (nt := 21) rfl (l := fin) (k := (.callR true [] [] ((List Int)) (fun t1 => (halterref03_List.R t1)) (fun t1 => (halterref03_List.B a0 t1)) (fun t1 => (aE 2 (.adj [.keep [1, 5, 6]] (.alt (.sub (Unit) (fun _ => (.exit 0)) (fun t12 => ⟨[A, A, A, A, A, A, A, A, A, A, A, A, A, A, A, A, A, A, A, A, A], [.gro false (.int .i64) t1 3], 0⟩) (fun t12 => (aE 2 (.adj [.drop 0] .nil)))) (.sub (Unit) (fun _ => .ret) (fun t13 => ⟨[A, A, A, A, .v (.one (.sc (.bool true))), A, A, A, A, A, A, A, A, A, A, A, A, A, A, A, A], [.gro false (.int .i64) t1 3], 0⟩) (fun t13 => (.adj [.drop 0] .nil))))))))) (to_goal (q := (∃ t1 : (List Int), (Fun cfg 66 [.one (.sc (.int .u32 a0))] [] (halterref03_List.R t1) (halterref03_List.B a0 t1) ∧ U) ∧ (U ∧ (U ∧ (((U) ∧ U) ∧ ((∃ t12 : Unit, Trip cfg (.loop (cpath (Tryz.f51.body.getD .skip) [1, 1, 0, 1, 0, 0])) ⟨[A, vi .i64 a1, A, A, A, .v (.one (.os 0 0 0 1 (List.length t1) none)), vi .i64 (0 : Int), A, A, A, A, A, A, A, A, A, A, A, A, A, A], [.gro false (.int .i64) t1 3], 0⟩ (fun e s => e = (.exit 0) ∧ s = ⟨[A, A, A, A, A, A, A, A, A, A, A, A, A, A, A, A, A, A, A, A, A], [.gro false (.int .i64) t1 3], 0⟩) ∧ (U ∧ (U ∧ ((U) ∧ ((U) ∧ U) ∧ (.v (.one (.sc (.bool false))) : Tm) = halterref03_Has.R r ∧ ([] : List Box) = [])))) ∨ (∃ t13 : Unit, Trip cfg (.loop (cpath (Tryz.f51.body.getD .skip) [1, 1, 0, 1, 0, 0])) ⟨[A, vi .i64 a1, A, A, A, .v (.one (.os 0 0 0 1 (List.length t1) none)), vi .i64 (0 : Int), A, A, A, A, A, A, A, A, A, A, A, A, A, A], [.gro false (.int .i64) t1 3], 0⟩ (fun e s => e = .ret ∧ s = ⟨[A, A, A, A, .v (.one (.sc (.bool true))), A, A, A, A, A, A, A, A, A, A, A, A, A, A, A, A], [.gro false (.int .i64) t1 3], 0⟩) ∧ ((U) ∧ ((U) ∧ U) ∧ (.v (.one (.sc (.bool true))) : Tm) = halterref03_Has.R r ∧ ([] : List Box) = [])))))))) (by kernel_rfl) ?_)
  obtain ⟨t1, ht1, h⟩ := of_bind h
  refine ⟨t1, ⟨halterref03_List.fun_ ht1, T⟩, ?_⟩
  refine ⟨T, T, ?_⟩
  obtain ⟨t7, ht7, h⟩ := of_bind h
  refine ⟨⟨T, T⟩, ?_⟩
  rcases t7 with t12 | t13
  · dsimp only at h
    left
    refine ⟨t12, Trip.loop FUEL (halterref03_Has.l0_ok t1 a1 FUEL (0 : Int) (.inl t12) ht7), ?_⟩
    refine ⟨T, T, ?_⟩
    obtain rfl := oi h
    exact ⟨T, ⟨T, T⟩, rfl, rfl⟩
  · dsimp only at h
    right
    refine ⟨t13, Trip.loop FUEL (halterref03_Has.l0_ok t1 a1 FUEL (0 : Int) (.inr t13) ht7), ?_⟩
    obtain rfl := oi h
    exact ⟨T, ⟨T, T⟩, rfl, rfl⟩
/-! halter/halterref25.May -/
def halterref25_May.f (a0 : Int) (a1 : Int) (a2 : (List Int)) : Option Bool :=
  (halterref03_Has.f a1 (9 : Int)).bind fun t1 =>
  if ¬ (t1 = true) then
    (halterref03_Has.f a1 (19 : Int)).bind fun t3 =>
    if ¬ (t3 = true) then
      if (List.getD a2 0 (0 : Int)) = (0 : Int) then
        if (List.getD a2 9 (0 : Int)) = (0 : Int) then
          if (List.getD a2 19 (0 : Int)) = (0 : Int) then
            if a0 < (2147483648 : Int) then
              some (decide (a1 < (2147483648 : Int)))
            else
              some false
          else
            some false
        else
          some false
      else
        some false
    else
      some false
  else
    some false
def halterref25_May.R (r : Bool) : Tm := .v (.one (.sc (.bool r)))
theorem halterref25_May.fun_ {a0 : Int} {a1 : Int} {a2 : (List Int)} {r : Bool} (h : halterref25_May.f a0 a1 a2 = some r) : Fun cfg 42 [.agg [.c (.sc (.int .u32 a0)), .c (.sc (.int .u32 a1)), .row 32 (.int .u32) a2]] [] (halterref25_May.R r) [] := by
  unfold halterref25_May.f at h
  refine fun_of_run cfg_ok (f := 42) (fn := Tryz.f42) Tryz.func42 rfl (by kernel_rfl) (rs := [.tmp 2]) rfl (nt := 41) rfl (l := fin) (k := (.call true [] (Bool) halterref03_Has.R (fun t1 => (.br (oT 2 (.call true [] (Bool) halterref03_Has.R (fun t3 => (oT 2 (.br (oT 4 (.br (oT 4 (.br (oT 4 (.br (oT 3 (.br (oT 3 (.adj [] (.adj [.drop 0] .nil))) (oF 3 (.adj [] (.adj [.drop 0] .nil))))) (oF 7 (.adj [] (.adj [.drop 0] .nil))))) (oF 12 (.adj [] (.adj [.drop 0] .nil))))) (oF 17 (.adj [] (.adj [.drop 0] .nil))))) (oF 22 (.adj [] (.adj [.drop 0] .nil)))))))) (oF 27 (.adj [] (.adj [.drop 0] .nil))))))) (to_goal (q := (U) ∧ (∃ t1 : Bool, (Fun cfg 51 [.one (.sc (.int .u32 a1)), .one (.sc (.int .i64 (9 : Int)))] [] (halterref03_Has.R t1) [] ∧ U) ∧ (((!t1) = true → ((!t1) = true ∧ (U) ∧ ((!t1) = true ∧ (∃ t3 : Bool, (Fun cfg 51 [.one (.sc (.int .u32 a1)), .one (.sc (.int .i64 (19 : Int)))] [] (halterref03_Has.R t3) [] ∧ U) ∧ ((!t1) = true ∧ ((!t1) = true ∧ (((!t3) = true → ((!t3) = true ∧ (0 ≤ (0 : Int) ∧ (0 : Int) < ((32 : Nat) : Int)) ∧ ((!t3) = true ∧ (0 < 32) ∧ ((!t3) = true ∧ (U) ∧ ((!t3) = true ∧ ((((List.getD a2 0 (0 : Int)) == (0 : Int)) = true → (((List.getD a2 0 (0 : Int)) == (0 : Int)) = true ∧ (0 ≤ (9 : Int) ∧ (9 : Int) < ((32 : Nat) : Int)) ∧ (((List.getD a2 0 (0 : Int)) == (0 : Int)) = true ∧ (9 < 32) ∧ (((List.getD a2 0 (0 : Int)) == (0 : Int)) = true ∧ (U) ∧ (((List.getD a2 0 (0 : Int)) == (0 : Int)) = true ∧ ((((List.getD a2 9 (0 : Int)) == (0 : Int)) = true → (((List.getD a2 9 (0 : Int)) == (0 : Int)) = true ∧ (0 ≤ (19 : Int) ∧ (19 : Int) < ((32 : Nat) : Int)) ∧ (((List.getD a2 9 (0 : Int)) == (0 : Int)) = true ∧ (19 < 32) ∧ (((List.getD a2 9 (0 : Int)) == (0 : Int)) = true ∧ (U) ∧ (((List.getD a2 9 (0 : Int)) == (0 : Int)) = true ∧ ((((List.getD a2 19 (0 : Int)) == (0 : Int)) = true → (((List.getD a2 19 (0 : Int)) == (0 : Int)) = true ∧ (U) ∧ (((List.getD a2 19 (0 : Int)) == (0 : Int)) = true ∧ (U) ∧ (((List.getD a2 19 (0 : Int)) == (0 : Int)) = true ∧ (((decide (a0 < (2147483648 : Int))) = true → ((decide (a0 < (2147483648 : Int))) = true ∧ (U) ∧ ((decide (a0 < (2147483648 : Int))) = true ∧ (U) ∧ ((decide (a0 < (2147483648 : Int))) = true ∧ (U ∧ ((U) ∧ ((U) ∧ U) ∧ (.v (.one (.sc (.bool (decide (a1 < (2147483648 : Int)))))) : Tm) = halterref25_May.R r ∧ ([] : List Box) = [])))))) ∧ ((decide (a0 < (2147483648 : Int))) = false → ((decide (a0 < (2147483648 : Int))) = false ∧ ((decide (a0 < (2147483648 : Int))) = false ∧ ((decide (a0 < (2147483648 : Int))) = false ∧ (U ∧ ((U) ∧ ((U) ∧ U) ∧ (.v (.one (.sc (.bool false))) : Tm) = halterref25_May.R r ∧ ([] : List Box) = []))))))))))) ∧ (((List.getD a2 19 (0 : Int)) == (0 : Int)) = false → (((List.getD a2 19 (0 : Int)) == (0 : Int)) = false ∧ (((List.getD a2 19 (0 : Int)) == (0 : Int)) = false ∧ (((List.getD a2 19 (0 : Int)) == (0 : Int)) = false ∧ (false = false ∧ (false = false ∧ (false = false ∧ (false = false ∧ (U ∧ ((U) ∧ ((U) ∧ U) ∧ (.v (.one (.sc (.bool false))) : Tm) = halterref25_May.R r ∧ ([] : List Box) = [])))))))))))))))) ∧ (((List.getD a2 9 (0 : Int)) == (0 : Int)) = false → (((List.getD a2 9 (0 : Int)) == (0 : Int)) = false ∧ (((List.getD a2 9 (0 : Int)) == (0 : Int)) = false ∧ (((List.getD a2 9 (0 : Int)) == (0 : Int)) = false ∧ (((List.getD a2 9 (0 : Int)) == (0 : Int)) = false ∧ (false = false ∧ (false = false ∧ (false = false ∧ (false = false ∧ (false = false ∧ (false = false ∧ (false = false ∧ (false = false ∧ (U ∧ ((U) ∧ ((U) ∧ U) ∧ (.v (.one (.sc (.bool false))) : Tm) = halterref25_May.R r ∧ ([] : List Box) = []))))))))))))))))))))) ∧ (((List.getD a2 0 (0 : Int)) == (0 : Int)) = false → (((List.getD a2 0 (0 : Int)) == (0 : Int)) = false ∧ (((List.getD a2 0 (0 : Int)) == (0 : Int)) = false ∧ (((List.getD a2 0 (0 : Int)) == (0 : Int)) = false ∧ (((List.getD a2 0 (0 : Int)) == (0 : Int)) = false ∧ (false = false ∧ (false = false ∧ (false = false ∧ (false = false ∧ (false = false ∧ (false = false ∧ (false = false ∧ (false = false ∧ (false = false ∧ (false = false ∧ (false = false ∧ (false = false ∧ (false = false ∧ (U ∧ ((U) ∧ ((U) ∧ U) ∧ (.v (.one (.sc (.bool false))) : Tm) = halterref25_May.R r ∧ ([] : List Box) = [])))))))))))))))))))))))))) ∧ ((!t3) = false → ((!t3) = false ∧ ((!t3) = false ∧ ((!t3) = false ∧ ((!t3) = false ∧ (false = false ∧ (false = false ∧ (false = false ∧ (false = false ∧ (false = false ∧ (false = false ∧ (false = false ∧ (false = false ∧ (false = false ∧ (false = false ∧ (false = false ∧ (false = false ∧ (false = false ∧ (false = false ∧ (false = false ∧ (false = false ∧ (false = false ∧ (false = false ∧ (U ∧ ((U) ∧ ((U) ∧ U) ∧ (.v (.one (.sc (.bool false))) : Tm) = halterref25_May.R r ∧ ([] : List Box) = [])))))))))))))))))))))))))))))))) ∧ ((!t1) = false → ((!t1) = false ∧ ((!t1) = false ∧ ((!t1) = false ∧ ((!t1) = false ∧ (false = false ∧ (false = false ∧ (false = false ∧ (false = false ∧ (false = false ∧ (false = false ∧ (false = false ∧ (false = false ∧ (false = false ∧ (false = false ∧ (false = false ∧ (false = false ∧ (false = false ∧ (false = false ∧ (false = false ∧ (false = false ∧ (false = false ∧ (false = false ∧ (false = false ∧ (false = false ∧ (false = false ∧ (false = false ∧ (false = false ∧ (U ∧ ((U) ∧ ((U) ∧ U) ∧ (.v (.one (.sc (.bool false))) : Tm) = halterref25_May.R r ∧ ([] : List Box) = []))))))))))))))))))))))))))))))))) (by kernel_rfl) ?_)
  refine tI ?_
  obtain ⟨t1, ht1, h⟩ := of_bind h
  refine ⟨t1, ⟨halterref03_Has.fun_ ht1, T⟩, ?_⟩
  refine ⟨fun b2 => ?_, fun b2 => ?_⟩
  · rw [if_pos (ff (not_t b2))] at h
    refine ⟨b2, ?_⟩
    refine tI ?_
    refine ⟨b2, ?_⟩
    obtain ⟨t3, ht3, h⟩ := of_bind h
    refine ⟨t3, ⟨halterref03_Has.fun_ ht3, T⟩, ?_⟩
    refine ⟨b2, ?_⟩
    refine ⟨b2, ?_⟩
    refine ⟨fun b4 => ?_, fun b4 => ?_⟩
    · rw [if_pos (ff (not_t b4))] at h
      refine ⟨b4, ?_⟩
      refine ⟨(by decide), ?_⟩
      refine ⟨b4, ?_⟩
      refine ⟨(by decide), ?_⟩
      refine ⟨b4, ?_⟩
      refine tI ?_
      refine ⟨b4, ?_⟩
      refine ⟨fun b5 => ?_, fun b5 => ?_⟩
      · rw [if_pos (beq_t b5)] at h
        refine ⟨b5, ?_⟩
        refine ⟨(by decide), ?_⟩
        refine ⟨b5, ?_⟩
        refine ⟨(by decide), ?_⟩
        refine ⟨b5, ?_⟩
        refine tI ?_
        refine ⟨b5, ?_⟩
        refine ⟨fun b6 => ?_, fun b6 => ?_⟩
        · rw [if_pos (beq_t b6)] at h
          refine ⟨b6, ?_⟩
          refine ⟨(by decide), ?_⟩
          refine ⟨b6, ?_⟩
          refine ⟨(by decide), ?_⟩
          refine ⟨b6, ?_⟩
          refine tI ?_
          refine ⟨b6, ?_⟩
          refine ⟨fun b7 => ?_, fun b7 => ?_⟩
          · rw [if_pos (beq_t b7)] at h
            refine ⟨b7, ?_⟩
            refine tI ?_
            refine ⟨b7, ?_⟩
            refine tI ?_
            refine ⟨b7, ?_⟩
            refine ⟨fun b8 => ?_, fun b8 => ?_⟩
            · rw [if_pos (dT_ b8)] at h
              refine ⟨b8, ?_⟩
              refine tI ?_
              refine ⟨b8, ?_⟩
              refine tI ?_
              refine ⟨b8, ?_⟩
              refine tI ?_
              obtain rfl := oi h
              exact ⟨T, ⟨T, T⟩, rfl, rfl⟩
            · rw [if_neg (dF_ b8)] at h
              refine ⟨b8, ?_⟩
              refine ⟨b8, ?_⟩
              refine ⟨b8, ?_⟩
              refine tI ?_
              obtain rfl := oi h
              exact ⟨T, ⟨T, T⟩, rfl, rfl⟩
          · rw [if_neg (beq_f b7)] at h
            refine ⟨b7, ?_⟩
            refine ⟨b7, ?_⟩
            refine ⟨b7, ?_⟩
            refine ⟨rfl, rfl, rfl, rfl, T, ?_⟩
            obtain rfl := oi h
            exact ⟨T, ⟨T, T⟩, rfl, rfl⟩
        · rw [if_neg (beq_f b6)] at h
          refine ⟨b6, ?_⟩
          refine ⟨b6, ?_⟩
          refine ⟨b6, ?_⟩
          refine ⟨b6, ?_⟩
          refine ⟨rfl, rfl, rfl, rfl, rfl, rfl, rfl, rfl, T, ?_⟩
          obtain rfl := oi h
          exact ⟨T, ⟨T, T⟩, rfl, rfl⟩
      · rw [if_neg (beq_f b5)] at h
        refine ⟨b5, ?_⟩
        refine ⟨b5, ?_⟩
        refine ⟨b5, ?_⟩
        refine ⟨b5, ?_⟩
        refine ⟨rfl, rfl, rfl, rfl, rfl, rfl, rfl, rfl, rfl, rfl, rfl, rfl, rfl, T, ?_⟩
        obtain rfl := oi h
        exact ⟨T, ⟨T, T⟩, rfl, rfl⟩
    · rw [if_neg (not_not_intro (not_f b4))] at h
      refine ⟨b4, ?_⟩
      refine ⟨b4, ?_⟩
      refine ⟨b4, ?_⟩
      refine ⟨b4, ?_⟩
      refine ⟨rfl, rfl, rfl, rfl, rfl, rfl, rfl, rfl, rfl, rfl, rfl, rfl, rfl, rfl, rfl, rfl, rfl, rfl, T, ?_⟩
      obtain rfl := oi h
      exact ⟨T, ⟨T, T⟩, rfl, rfl⟩
  · rw [if_neg (not_not_intro (not_f b2))] at h
    refine ⟨b2, ?_⟩
    refine ⟨b2, ?_⟩
    refine ⟨b2, ?_⟩
    refine ⟨b2, ?_⟩
    refine ⟨rfl, rfl, rfl, rfl, rfl, rfl, rfl, rfl, rfl, rfl, rfl, rfl, rfl, rfl, rfl, rfl, rfl, rfl, rfl, rfl, rfl, rfl, rfl, T, ?_⟩
    obtain rfl := oi h
    exact ⟨T, ⟨T, T⟩, rfl, rfl⟩
/-! halter/halterref26.Of -/
def halterref26_Of.f (a0 : Int) (a1 : Int) : Option (Int × Int) :=
  if a0 = (0 : Int) then
    if a1 ≥ (0 : Int) then
      if a1 ≤ (255 : Int) then
        some ((IntKind.wrap .u32 ((IntKind.wrap .i64 ((256 : Int) * a1)))), (0 : Int))
      else
        if a0 < (1 : Int) then
          some ((0 : Int), (22 : Int))
        else
          if a0 > (3 : Int) then
            some ((0 : Int), (22 : Int))
          else
            if a1 < (1 : Int) then
              some ((0 : Int), (22 : Int))
            else
              if a1 > (31 : Int) then
                some ((0 : Int), (22 : Int))
              else
                if a0 = (1 : Int) then
                  some ((IntKind.wrap .u32 (a1)), (0 : Int))
                else
                  if a0 = (2 : Int) then
                    some ((IntKind.wrap .u32 ((IntKind.wrap .i64 ((IntKind.wrap .i64 ((256 : Int) * a1)) + (127 : Int))))), (0 : Int))
                  else
                    some ((IntKind.wrap .u32 ((IntKind.wrap .i64 ((IntKind.wrap .i64 ((256 : Int) * (IntKind.wrap .i64 (a1 + (128 : Int))))) + (127 : Int))))), (0 : Int))
    else
      if a0 < (1 : Int) then
        some ((0 : Int), (22 : Int))
      else
        if a0 > (3 : Int) then
          some ((0 : Int), (22 : Int))
        else
          if a1 < (1 : Int) then
            some ((0 : Int), (22 : Int))
          else
            if a1 > (31 : Int) then
              some ((0 : Int), (22 : Int))
            else
              if a0 = (1 : Int) then
                some ((IntKind.wrap .u32 (a1)), (0 : Int))
              else
                if a0 = (2 : Int) then
                  some ((IntKind.wrap .u32 ((IntKind.wrap .i64 ((IntKind.wrap .i64 ((256 : Int) * a1)) + (127 : Int))))), (0 : Int))
                else
                  some ((IntKind.wrap .u32 ((IntKind.wrap .i64 ((IntKind.wrap .i64 ((256 : Int) * (IntKind.wrap .i64 (a1 + (128 : Int))))) + (127 : Int))))), (0 : Int))
  else
    if a0 < (1 : Int) then
      some ((0 : Int), (22 : Int))
    else
      if a0 > (3 : Int) then
        some ((0 : Int), (22 : Int))
      else
        if a1 < (1 : Int) then
          some ((0 : Int), (22 : Int))
        else
          if a1 > (31 : Int) then
            some ((0 : Int), (22 : Int))
          else
            if a0 = (1 : Int) then
              some ((IntKind.wrap .u32 (a1)), (0 : Int))
            else
              if a0 = (2 : Int) then
                some ((IntKind.wrap .u32 ((IntKind.wrap .i64 ((IntKind.wrap .i64 ((256 : Int) * a1)) + (127 : Int))))), (0 : Int))
              else
                some ((IntKind.wrap .u32 ((IntKind.wrap .i64 ((IntKind.wrap .i64 ((256 : Int) * (IntKind.wrap .i64 (a1 + (128 : Int))))) + (127 : Int))))), (0 : Int))
def halterref26_Of.R (r : Int × Int) : Tm := .tup [.one (.sc (.int .u32 r.1)), .one (.sc (.int .i64 r.2))]
theorem halterref26_Of.fun_ {a0 : Int} {a1 : Int} {r : Int × Int} (h : halterref26_Of.f a0 a1 = some r) : Fun cfg 82 [.one (.sc (.int .i64 a0)), .one (.sc (.int .i64 a1))] [] (halterref26_Of.R r) [] := by
  unfold halterref26_Of.f at h
  refine fun_of_run cfg_ok (f := 82) (fn := Tryz.f82) Tryz.func82 rfl (by kernel_rfl) (rs := [.tmp 4, .tmp 5]) rfl (nt := 48) rfl (l := fin) (k := (.br (oT 2 (.br (oT 2 (.br (aE 3 .nil) (.br (oT 9 (aE 3 .nil)) (oF 2 (.br (oT 6 (aE 3 .nil)) (oF 2 (.br (oT 3 (aE 3 .nil)) (oF 2 (.br (aE 3 .nil) (.br (aE 3 .nil) (.br (aE 3 .nil) (aE 4 .nil)))))))))))) (oF 3 (.br (oT 9 (aE 3 .nil)) (oF 2 (.br (oT 6 (aE 3 .nil)) (oF 2 (.br (oT 3 (aE 3 .nil)) (oF 2 (.br (aE 3 .nil) (.br (aE 3 .nil) (.br (aE 3 .nil) (aE 4 .nil))))))))))))) (oF 6 (.br (oT 9 (aE 3 .nil)) (oF 2 (.br (oT 6 (aE 3 .nil)) (oF 2 (.br (oT 3 (aE 3 .nil)) (oF 2 (.br (aE 3 .nil) (.br (aE 3 .nil) (.br (aE 3 .nil) (aE 4 .nil))))))))))))) (to_goal (q := (U) ∧ (((a0 == (0 : Int)) = true → ((a0 == (0 : Int)) = true ∧ (U) ∧ ((a0 == (0 : Int)) = true ∧ (((decide (a1 ≥ (0 : Int))) = true → ((decide (a1 ≥ (0 : Int))) = true ∧ (U) ∧ ((decide (a1 ≥ (0 : Int))) = true ∧ (((decide (a1 ≤ (255 : Int))) = true → (U ∧ (U) ∧ (U) ∧ (U ∧ ((U) ∧ (U) ∧ (.tup [.one (.sc (.int .u32 (IntKind.wrap .u32 ((IntKind.wrap .i64 ((256 : Int) * a1)))))), .one (.sc (.int .i64 (0 : Int)))] : Tm) = halterref26_Of.R r ∧ ([] : List Box) = [])))) ∧ ((decide (a1 ≤ (255 : Int))) = false → (U) ∧ (((decide (a0 < (1 : Int))) = false → ((decide (a0 < (1 : Int))) = false ∧ (U) ∧ ((decide (a0 < (1 : Int))) = false ∧ (((decide (a0 > (3 : Int))) = false → ((decide (a0 > (3 : Int))) = false ∧ (U) ∧ ((decide (a0 > (3 : Int))) = false ∧ (((decide (a1 < (1 : Int))) = false → ((decide (a1 < (1 : Int))) = false ∧ (U) ∧ ((decide (a1 < (1 : Int))) = false ∧ (((decide (a1 > (31 : Int))) = true → (U ∧ (U ∧ ((U) ∧ (U) ∧ (.tup [.one (.sc (.int .u32 (0 : Int))), .one (.sc (.int .i64 (22 : Int)))] : Tm) = halterref26_Of.R r ∧ ([] : List Box) = [])))) ∧ ((decide (a1 > (31 : Int))) = false → (U) ∧ (((a0 == (1 : Int)) = true → (U ∧ (U) ∧ (U ∧ ((U) ∧ (U) ∧ (.tup [.one (.sc (.int .u32 (IntKind.wrap .u32 (a1)))), .one (.sc (.int .i64 (0 : Int)))] : Tm) = halterref26_Of.R r ∧ ([] : List Box) = [])))) ∧ ((a0 == (1 : Int)) = false → (U) ∧ (((a0 == (2 : Int)) = true → (U ∧ (U) ∧ (U) ∧ (U) ∧ (U ∧ ((U) ∧ (U) ∧ (.tup [.one (.sc (.int .u32 (IntKind.wrap .u32 ((IntKind.wrap .i64 ((IntKind.wrap .i64 ((256 : Int) * a1)) + (127 : Int))))))), .one (.sc (.int .i64 (0 : Int)))] : Tm) = halterref26_Of.R r ∧ ([] : List Box) = [])))) ∧ ((a0 == (2 : Int)) = false → (U ∧ (U ∧ (U) ∧ (U) ∧ (U) ∧ (U) ∧ (U ∧ ((U) ∧ (U) ∧ (.tup [.one (.sc (.int .u32 (IntKind.wrap .u32 ((IntKind.wrap .i64 ((IntKind.wrap .i64 ((256 : Int) * (IntKind.wrap .i64 (a1 + (128 : Int))))) + (127 : Int))))))), .one (.sc (.int .i64 (0 : Int)))] : Tm) = halterref26_Of.R r ∧ ([] : List Box) = []))))))))))))) ∧ ((decide (a1 < (1 : Int))) = true → ((decide (a1 < (1 : Int))) = true ∧ ((decide (a1 < (1 : Int))) = true ∧ (true = true ∧ (U ∧ (U ∧ ((U) ∧ (U) ∧ (.tup [.one (.sc (.int .u32 (0 : Int))), .one (.sc (.int .i64 (22 : Int)))] : Tm) = halterref26_Of.R r ∧ ([] : List Box) = []))))))))))) ∧ ((decide (a0 > (3 : Int))) = true → ((decide (a0 > (3 : Int))) = true ∧ ((decide (a0 > (3 : Int))) = true ∧ (true = true ∧ (true = true ∧ (true = true ∧ (true = true ∧ (U ∧ (U ∧ ((U) ∧ (U) ∧ (.tup [.one (.sc (.int .u32 (0 : Int))), .one (.sc (.int .i64 (22 : Int)))] : Tm) = halterref26_Of.R r ∧ ([] : List Box) = [])))))))))))))) ∧ ((decide (a0 < (1 : Int))) = true → ((decide (a0 < (1 : Int))) = true ∧ ((decide (a0 < (1 : Int))) = true ∧ (true = true ∧ (true = true ∧ (true = true ∧ (true = true ∧ (true = true ∧ (true = true ∧ (true = true ∧ (U ∧ (U ∧ ((U) ∧ (U) ∧ (.tup [.one (.sc (.int .u32 (0 : Int))), .one (.sc (.int .i64 (22 : Int)))] : Tm) = halterref26_Of.R r ∧ ([] : List Box) = []))))))))))))))))))) ∧ ((decide (a1 ≥ (0 : Int))) = false → ((decide (a1 ≥ (0 : Int))) = false ∧ ((decide (a1 ≥ (0 : Int))) = false ∧ (false = false ∧ (U) ∧ (((decide (a0 < (1 : Int))) = false → ((decide (a0 < (1 : Int))) = false ∧ (U) ∧ ((decide (a0 < (1 : Int))) = false ∧ (((decide (a0 > (3 : Int))) = false → ((decide (a0 > (3 : Int))) = false ∧ (U) ∧ ((decide (a0 > (3 : Int))) = false ∧ (((decide (a1 < (1 : Int))) = false → ((decide (a1 < (1 : Int))) = false ∧ (U) ∧ ((decide (a1 < (1 : Int))) = false ∧ (((decide (a1 > (31 : Int))) = true → (U ∧ (U ∧ ((U) ∧ (U) ∧ (.tup [.one (.sc (.int .u32 (0 : Int))), .one (.sc (.int .i64 (22 : Int)))] : Tm) = halterref26_Of.R r ∧ ([] : List Box) = [])))) ∧ ((decide (a1 > (31 : Int))) = false → (U) ∧ (((a0 == (1 : Int)) = true → (U ∧ (U) ∧ (U ∧ ((U) ∧ (U) ∧ (.tup [.one (.sc (.int .u32 (IntKind.wrap .u32 (a1)))), .one (.sc (.int .i64 (0 : Int)))] : Tm) = halterref26_Of.R r ∧ ([] : List Box) = [])))) ∧ ((a0 == (1 : Int)) = false → (U) ∧ (((a0 == (2 : Int)) = true → (U ∧ (U) ∧ (U) ∧ (U) ∧ (U ∧ ((U) ∧ (U) ∧ (.tup [.one (.sc (.int .u32 (IntKind.wrap .u32 ((IntKind.wrap .i64 ((IntKind.wrap .i64 ((256 : Int) * a1)) + (127 : Int))))))), .one (.sc (.int .i64 (0 : Int)))] : Tm) = halterref26_Of.R r ∧ ([] : List Box) = [])))) ∧ ((a0 == (2 : Int)) = false → (U ∧ (U ∧ (U) ∧ (U) ∧ (U) ∧ (U) ∧ (U ∧ ((U) ∧ (U) ∧ (.tup [.one (.sc (.int .u32 (IntKind.wrap .u32 ((IntKind.wrap .i64 ((IntKind.wrap .i64 ((256 : Int) * (IntKind.wrap .i64 (a1 + (128 : Int))))) + (127 : Int))))))), .one (.sc (.int .i64 (0 : Int)))] : Tm) = halterref26_Of.R r ∧ ([] : List Box) = []))))))))))))) ∧ ((decide (a1 < (1 : Int))) = true → ((decide (a1 < (1 : Int))) = true ∧ ((decide (a1 < (1 : Int))) = true ∧ (true = true ∧ (U ∧ (U ∧ ((U) ∧ (U) ∧ (.tup [.one (.sc (.int .u32 (0 : Int))), .one (.sc (.int .i64 (22 : Int)))] : Tm) = halterref26_Of.R r ∧ ([] : List Box) = []))))))))))) ∧ ((decide (a0 > (3 : Int))) = true → ((decide (a0 > (3 : Int))) = true ∧ ((decide (a0 > (3 : Int))) = true ∧ (true = true ∧ (true = true ∧ (true = true ∧ (true = true ∧ (U ∧ (U ∧ ((U) ∧ (U) ∧ (.tup [.one (.sc (.int .u32 (0 : Int))), .one (.sc (.int .i64 (22 : Int)))] : Tm) = halterref26_Of.R r ∧ ([] : List Box) = [])))))))))))))) ∧ ((decide (a0 < (1 : Int))) = true → ((decide (a0 < (1 : Int))) = true ∧ ((decide (a0 < (1 : Int))) = true ∧ (true = true ∧ (true = true ∧ (true = true ∧ (true = true ∧ (true = true ∧ (true = true ∧ (true = true ∧ (U ∧ (U ∧ ((U) ∧ (U) ∧ (.tup [.one (.sc (.int .u32 (0 : Int))), .one (.sc (.int .i64 (22 : Int)))] : Tm) = halterref26_Of.R r ∧ ([] : List Box) = [])))))))))))))))))))))) ∧ ((a0 == (0 : Int)) = false → ((a0 == (0 : Int)) = false ∧ ((a0 == (0 : Int)) = false ∧ (false = false ∧ (false = false ∧ (false = false ∧ (false = false ∧ (U) ∧ (((decide (a0 < (1 : Int))) = false → ((decide (a0 < (1 : Int))) = false ∧ (U) ∧ ((decide (a0 < (1 : Int))) = false ∧ (((decide (a0 > (3 : Int))) = false → ((decide (a0 > (3 : Int))) = false ∧ (U) ∧ ((decide (a0 > (3 : Int))) = false ∧ (((decide (a1 < (1 : Int))) = false → ((decide (a1 < (1 : Int))) = false ∧ (U) ∧ ((decide (a1 < (1 : Int))) = false ∧ (((decide (a1 > (31 : Int))) = true → (U ∧ (U ∧ ((U) ∧ (U) ∧ (.tup [.one (.sc (.int .u32 (0 : Int))), .one (.sc (.int .i64 (22 : Int)))] : Tm) = halterref26_Of.R r ∧ ([] : List Box) = [])))) ∧ ((decide (a1 > (31 : Int))) = false → (U) ∧ (((a0 == (1 : Int)) = true → (U ∧ (U) ∧ (U ∧ ((U) ∧ (U) ∧ (.tup [.one (.sc (.int .u32 (IntKind.wrap .u32 (a1)))), .one (.sc (.int .i64 (0 : Int)))] : Tm) = halterref26_Of.R r ∧ ([] : List Box) = [])))) ∧ ((a0 == (1 : Int)) = false → (U) ∧ (((a0 == (2 : Int)) = true → (U ∧ (U) ∧ (U) ∧ (U) ∧ (U ∧ ((U) ∧ (U) ∧ (.tup [.one (.sc (.int .u32 (IntKind.wrap .u32 ((IntKind.wrap .i64 ((IntKind.wrap .i64 ((256 : Int) * a1)) + (127 : Int))))))), .one (.sc (.int .i64 (0 : Int)))] : Tm) = halterref26_Of.R r ∧ ([] : List Box) = [])))) ∧ ((a0 == (2 : Int)) = false → (U ∧ (U ∧ (U) ∧ (U) ∧ (U) ∧ (U) ∧ (U ∧ ((U) ∧ (U) ∧ (.tup [.one (.sc (.int .u32 (IntKind.wrap .u32 ((IntKind.wrap .i64 ((IntKind.wrap .i64 ((256 : Int) * (IntKind.wrap .i64 (a1 + (128 : Int))))) + (127 : Int))))))), .one (.sc (.int .i64 (0 : Int)))] : Tm) = halterref26_Of.R r ∧ ([] : List Box) = []))))))))))))) ∧ ((decide (a1 < (1 : Int))) = true → ((decide (a1 < (1 : Int))) = true ∧ ((decide (a1 < (1 : Int))) = true ∧ (true = true ∧ (U ∧ (U ∧ ((U) ∧ (U) ∧ (.tup [.one (.sc (.int .u32 (0 : Int))), .one (.sc (.int .i64 (22 : Int)))] : Tm) = halterref26_Of.R r ∧ ([] : List Box) = []))))))))))) ∧ ((decide (a0 > (3 : Int))) = true → ((decide (a0 > (3 : Int))) = true ∧ ((decide (a0 > (3 : Int))) = true ∧ (true = true ∧ (true = true ∧ (true = true ∧ (true = true ∧ (U ∧ (U ∧ ((U) ∧ (U) ∧ (.tup [.one (.sc (.int .u32 (0 : Int))), .one (.sc (.int .i64 (22 : Int)))] : Tm) = halterref26_Of.R r ∧ ([] : List Box) = [])))))))))))))) ∧ ((decide (a0 < (1 : Int))) = true → ((decide (a0 < (1 : Int))) = true ∧ ((decide (a0 < (1 : Int))) = true ∧ (true = true ∧ (true = true ∧ (true = true ∧ (true = true ∧ (true = true ∧ (true = true ∧ (true = true ∧ (U ∧ (U ∧ ((U) ∧ (U) ∧ (.tup [.one (.sc (.int .u32 (0 : Int))), .one (.sc (.int .i64 (22 : Int)))] : Tm) = halterref26_Of.R r ∧ ([] : List Box) = []))))))))))))))))))))))) (by kernel_rfl) ?_)
  refine tI ?_
  refine ⟨fun b1 => ?_, fun b1 => ?_⟩
  · rw [if_pos (beq_t b1)] at h
    refine ⟨b1, ?_⟩
    refine tI ?_
    refine ⟨b1, ?_⟩
    refine ⟨fun b2 => ?_, fun b2 => ?_⟩
    · rw [if_pos (dT_ b2)] at h
      refine ⟨b2, ?_⟩
      refine tI ?_
      refine ⟨b2, ?_⟩
      refine ⟨fun b3 => ?_, fun b3 => ?_⟩
      · rw [if_pos (dT_ b3)] at h
        refine ⟨T, T, T, T, ?_⟩
        obtain rfl := oi h
        exact ⟨T, T, rfl, rfl⟩
      · rw [if_neg (dF_ b3)] at h
        refine tI ?_
        refine ⟨fun b4 => ?_, fun b4 => ?_⟩
        · rw [if_neg (dF_ b4)] at h
          refine ⟨b4, ?_⟩
          refine tI ?_
          refine ⟨b4, ?_⟩
          refine ⟨fun b5 => ?_, fun b5 => ?_⟩
          · rw [if_neg (dF_ b5)] at h
            refine ⟨b5, ?_⟩
            refine tI ?_
            refine ⟨b5, ?_⟩
            refine ⟨fun b6 => ?_, fun b6 => ?_⟩
            · rw [if_neg (dF_ b6)] at h
              refine ⟨b6, ?_⟩
              refine tI ?_
              refine ⟨b6, ?_⟩
              refine ⟨fun b7 => ?_, fun b7 => ?_⟩
              · rw [if_pos (dT_ b7)] at h
                refine ⟨T, T, ?_⟩
                obtain rfl := oi h
                exact ⟨T, T, rfl, rfl⟩
              · rw [if_neg (dF_ b7)] at h
                refine tI ?_
                refine ⟨fun b8 => ?_, fun b8 => ?_⟩
                · rw [if_pos (beq_t b8)] at h
                  refine ⟨T, T, T, ?_⟩
                  obtain rfl := oi h
                  exact ⟨T, T, rfl, rfl⟩
                · rw [if_neg (beq_f b8)] at h
                  refine tI ?_
                  refine ⟨fun b9 => ?_, fun b9 => ?_⟩
                  · rw [if_pos (beq_t b9)] at h
                    refine ⟨T, T, T, T, T, ?_⟩
                    obtain rfl := oi h
                    exact ⟨T, T, rfl, rfl⟩
                  · rw [if_neg (beq_f b9)] at h
                    refine ⟨T, T, T, T, T, T, T, ?_⟩
                    obtain rfl := oi h
                    exact ⟨T, T, rfl, rfl⟩
            · rw [if_pos (dT_ b6)] at h
              refine ⟨b6, ?_⟩
              refine ⟨b6, ?_⟩
              refine ⟨rfl, T, T, ?_⟩
              obtain rfl := oi h
              exact ⟨T, T, rfl, rfl⟩
          · rw [if_pos (dT_ b5)] at h
            refine ⟨b5, ?_⟩
            refine ⟨b5, ?_⟩
            refine ⟨rfl, rfl, rfl, rfl, T, T, ?_⟩
            obtain rfl := oi h
            exact ⟨T, T, rfl, rfl⟩
        · rw [if_pos (dT_ b4)] at h
          refine ⟨b4, ?_⟩
          refine ⟨b4, ?_⟩
          refine ⟨rfl, rfl, rfl, rfl, rfl, rfl, rfl, T, T, ?_⟩
          obtain rfl := oi h
          exact ⟨T, T, rfl, rfl⟩
    · rw [if_neg (dF_ b2)] at h
      refine ⟨b2, ?_⟩
      refine ⟨b2, ?_⟩
      refine ⟨rfl, T, ?_⟩
      refine ⟨fun b10 => ?_, fun b10 => ?_⟩
      · rw [if_neg (dF_ b10)] at h
        refine ⟨b10, ?_⟩
        refine tI ?_
        refine ⟨b10, ?_⟩
        refine ⟨fun b11 => ?_, fun b11 => ?_⟩
        · rw [if_neg (dF_ b11)] at h
          refine ⟨b11, ?_⟩
          refine tI ?_
          refine ⟨b11, ?_⟩
          refine ⟨fun b12 => ?_, fun b12 => ?_⟩
          · rw [if_neg (dF_ b12)] at h
            refine ⟨b12, ?_⟩
            refine tI ?_
            refine ⟨b12, ?_⟩
            refine ⟨fun b13 => ?_, fun b13 => ?_⟩
            · rw [if_pos (dT_ b13)] at h
              refine ⟨T, T, ?_⟩
              obtain rfl := oi h
              exact ⟨T, T, rfl, rfl⟩
            · rw [if_neg (dF_ b13)] at h
              refine tI ?_
              refine ⟨fun b14 => ?_, fun b14 => ?_⟩
              · rw [if_pos (beq_t b14)] at h
                refine ⟨T, T, T, ?_⟩
                obtain rfl := oi h
                exact ⟨T, T, rfl, rfl⟩
              · rw [if_neg (beq_f b14)] at h
                refine tI ?_
                refine ⟨fun b15 => ?_, fun b15 => ?_⟩
                · rw [if_pos (beq_t b15)] at h
                  refine ⟨T, T, T, T, T, ?_⟩
                  obtain rfl := oi h
                  exact ⟨T, T, rfl, rfl⟩
                · rw [if_neg (beq_f b15)] at h
                  refine ⟨T, T, T, T, T, T, T, ?_⟩
                  obtain rfl := oi h
                  exact ⟨T, T, rfl, rfl⟩
          · rw [if_pos (dT_ b12)] at h
            refine ⟨b12, ?_⟩
            refine ⟨b12, ?_⟩
            refine ⟨rfl, T, T, ?_⟩
            obtain rfl := oi h
            exact ⟨T, T, rfl, rfl⟩
        · rw [if_pos (dT_ b11)] at h
          refine ⟨b11, ?_⟩
          refine ⟨b11, ?_⟩
          refine ⟨rfl, rfl, rfl, rfl, T, T, ?_⟩
          obtain rfl := oi h
          exact ⟨T, T, rfl, rfl⟩
      · rw [if_pos (dT_ b10)] at h
        refine ⟨b10, ?_⟩
        refine ⟨b10, ?_⟩
        refine ⟨rfl, rfl, rfl, rfl, rfl, rfl, rfl, T, T, ?_⟩
        obtain rfl := oi h
        exact ⟨T, T, rfl, rfl⟩
  · rw [if_neg (beq_f b1)] at h
    refine ⟨b1, ?_⟩
    refine ⟨b1, ?_⟩
    refine ⟨rfl, rfl, rfl, rfl, T, ?_⟩
    refine ⟨fun b16 => ?_, fun b16 => ?_⟩
    · rw [if_neg (dF_ b16)] at h
      refine ⟨b16, ?_⟩
      refine tI ?_
      refine ⟨b16, ?_⟩
      refine ⟨fun b17 => ?_, fun b17 => ?_⟩
      · rw [if_neg (dF_ b17)] at h
        refine ⟨b17, ?_⟩
        refine tI ?_
        refine ⟨b17, ?_⟩
        refine ⟨fun b18 => ?_, fun b18 => ?_⟩
        · rw [if_neg (dF_ b18)] at h
          refine ⟨b18, ?_⟩
          refine tI ?_
          refine ⟨b18, ?_⟩
          refine ⟨fun b19 => ?_, fun b19 => ?_⟩
          · rw [if_pos (dT_ b19)] at h
            refine ⟨T, T, ?_⟩
            obtain rfl := oi h
            exact ⟨T, T, rfl, rfl⟩
          · rw [if_neg (dF_ b19)] at h
            refine tI ?_
            refine ⟨fun b20 => ?_, fun b20 => ?_⟩
            · rw [if_pos (beq_t b20)] at h
              refine ⟨T, T, T, ?_⟩
              obtain rfl := oi h
              exact ⟨T, T, rfl, rfl⟩
            · rw [if_neg (beq_f b20)] at h
              refine tI ?_
              refine ⟨fun b21 => ?_, fun b21 => ?_⟩
              · rw [if_pos (beq_t b21)] at h
                refine ⟨T, T, T, T, T, ?_⟩
                obtain rfl := oi h
                exact ⟨T, T, rfl, rfl⟩
              · rw [if_neg (beq_f b21)] at h
                refine ⟨T, T, T, T, T, T, T, ?_⟩
                obtain rfl := oi h
                exact ⟨T, T, rfl, rfl⟩
        · rw [if_pos (dT_ b18)] at h
          refine ⟨b18, ?_⟩
          refine ⟨b18, ?_⟩
          refine ⟨rfl, T, T, ?_⟩
          obtain rfl := oi h
          exact ⟨T, T, rfl, rfl⟩
      · rw [if_pos (dT_ b17)] at h
        refine ⟨b17, ?_⟩
        refine ⟨b17, ?_⟩
        refine ⟨rfl, rfl, rfl, rfl, T, T, ?_⟩
        obtain rfl := oi h
        exact ⟨T, T, rfl, rfl⟩
    · rw [if_pos (dT_ b16)] at h
      refine ⟨b16, ?_⟩
      refine ⟨b16, ?_⟩
      refine ⟨rfl, rfl, rfl, rfl, rfl, rfl, rfl, T, T, ?_⟩
      obtain rfl := oi h
      exact ⟨T, T, rfl, rfl⟩
/-! halter/halterref26.What -/
def halterref26_What.l1 (x1 : Int) (a0 : Int) : Nat → Int → Option ((Unit) ⊕ (Int))
  | 0, _ => none
  | n + 1, x17 =>
    if x17 < (256 : Int) then
      (halterref26_Of.f x1 x17).bind fun t25 =>
      if t25.2 = (0 : Int) then
        if t25.1 = a0 then
          some (.inr x17)
        else
          halterref26_What.l1 x1 a0 n (IntKind.wrap .i64 (x17 + (1 : Int)))
      else
        halterref26_What.l1 x1 a0 n (IntKind.wrap .i64 (x17 + (1 : Int)))
    else
      some (.inl ())
def halterref26_What.l1_S (x1 : Int) (a0 : Int) (x17 : Int) : St := ⟨[vi .u32 a0, A, A, A, A, vi .i64 x1, vi .i64 x17, A, A, A, A, A, A, A, A, A, A, A, A, A, A, A, A, A, A, A, A, A, A, A, A, A], [], 0⟩
def halterref26_What.l1_Q (x1 : Int) (a0 : Int) : (Unit) ⊕ (Int) → Exit → St → Prop
  | .inl t => fun e s => e = (.exit 2) ∧ s = ⟨[vi .u32 a0, A, A, A, A, vi .i64 x1, A, A, A, A, A, A, A, A, A, A, A, A, A, A, A, A, A, A, A, A, A, A, A, A, A, A], [], 0⟩
  | .inr t => fun e s => e = .ret ∧ s = ⟨[A, A, vi .i64 x1, vi .i64 t, vi .i64 (0 : Int), A, A, A, A, A, A, A, A, A, A, A, A, A, A, A, A, A, A, A, A, A, A, A, A, A, A, A], [], 0⟩
theorem halterref26_What.l1_ok (x1 : Int) (a0 : Int) : ∀ (n : Nat) (x17 : Int) (r : (Unit) ⊕ (Int)), halterref26_What.l1 x1 a0 n x17 = some r → TripN cfg (cpath (Tryz.f76.body.getD .skip) [1, 0, 1, 0, 0, 1, 0, 0, 1, 0, 0]) n (halterref26_What.l1_S x1 a0 x17) (halterref26_What.l1_Q x1 a0 r) := by
  intro n
  induction n with
  | zero => intro x17 r h; cases h
  | succ n ih =>
    intro x17 r h
    rw [halterref26_What.l1] at h
    refine TripN.of_run cfg_ok (k := (.br (.call true [] (Int × Int) halterref26_Of.R (fun t25 => (.br (oT 3 (.br (.adj [] (.adj [.keep [2, 3, 4], .drop 0] .nil)) (aE 2 (.adj [.keep [0, 5, 6], .drop 0] .nil)))) (oF 4 (aE 2 (.adj [.keep [0, 5, 6], .drop 0] .nil)))))) (.adj [.keep [0, 5], .drop 0] .nil))) (to_goal (q := (U) ∧ (((decide (x17 < (256 : Int))) = true → (∃ t25 : Int × Int, (Fun cfg 82 [.one (.sc (.int .i64 x1)), .one (.sc (.int .i64 x17))] [] (halterref26_Of.R t25) [] ∧ U) ∧ (U) ∧ (((t25.2 == (0 : Int)) = true → ((t25.2 == (0 : Int)) = true ∧ ((t25.2 == (0 : Int)) = true ∧ (U) ∧ ((t25.2 == (0 : Int)) = true ∧ (((t25.1 == a0) = true → (U ∧ (((U) ∧ (U) ∧ U) ∧ halterref26_What.l1_Q x1 a0 r .ret ⟨[A, A, vi .i64 x1, vi .i64 x17, vi .i64 (0 : Int), A, A, A, A, A, A, A, A, A, A, A, A, A, A, A, A, A, A, A, A, A, A, A, A, A, A, A], [], 0⟩))) ∧ ((t25.1 == a0) = false → (U ∧ (U ∧ (U) ∧ (((U) ∧ (U) ∧ U) ∧ TripN cfg (cpath (Tryz.f76.body.getD .skip) [1, 0, 1, 0, 0, 1, 0, 0, 1, 0, 0]) n (halterref26_What.l1_S x1 a0 (IntKind.wrap .i64 (x17 + (1 : Int)))) (halterref26_What.l1_Q x1 a0 r)))))))))) ∧ ((t25.2 == (0 : Int)) = false → ((t25.2 == (0 : Int)) = false ∧ ((t25.2 == (0 : Int)) = false ∧ ((t25.2 == (0 : Int)) = false ∧ (false = false ∧ (U ∧ (U ∧ (U) ∧ (((U) ∧ (U) ∧ U) ∧ TripN cfg (cpath (Tryz.f76.body.getD .skip) [1, 0, 1, 0, 0, 1, 0, 0, 1, 0, 0]) n (halterref26_What.l1_S x1 a0 (IntKind.wrap .i64 (x17 + (1 : Int)))) (halterref26_What.l1_Q x1 a0 r)))))))))))) ∧ ((decide (x17 < (256 : Int))) = false → (((U) ∧ (U) ∧ U) ∧ halterref26_What.l1_Q x1 a0 r (.exit 2) ⟨[vi .u32 a0, A, A, A, A, vi .i64 x1, A, A, A, A, A, A, A, A, A, A, A, A, A, A, A, A, A, A, A, A, A, A, A, A, A, A], [], 0⟩)))) (by kernel_rfl) ?_)
    refine tI ?_
    refine ⟨fun b24 => ?_, fun b24 => ?_⟩
    · rw [if_pos (dT_ b24)] at h
      obtain ⟨t25, ht25, h⟩ := of_bind h
      refine ⟨t25, ⟨halterref26_Of.fun_ ht25, T⟩, ?_⟩
      refine tI ?_
      refine ⟨fun b26 => ?_, fun b26 => ?_⟩
      · rw [if_pos (beq_t b26)] at h
        refine ⟨b26, ?_⟩
        refine ⟨b26, ?_⟩
        refine tI ?_
        refine ⟨b26, ?_⟩
        refine ⟨fun b27 => ?_, fun b27 => ?_⟩
        · rw [if_pos (beq_t b27)] at h
          refine tI ?_
          obtain rfl := oi h
          exact ⟨⟨T, T, T⟩, rfl, rfl⟩
        · rw [if_neg (beq_f b27)] at h
          refine ⟨T, T, T, ?_⟩
          exact ⟨⟨T, T, T⟩, ih (IntKind.wrap .i64 (x17 + (1 : Int))) r h⟩
      · rw [if_neg (beq_f b26)] at h
        refine ⟨b26, ?_⟩
        refine ⟨b26, ?_⟩
        refine ⟨b26, ?_⟩
        refine ⟨rfl, T, T, T, ?_⟩
        exact ⟨⟨T, T, T⟩, ih (IntKind.wrap .i64 (x17 + (1 : Int))) r h⟩
    · rw [if_neg (dF_ b24)] at h
      obtain rfl := oi h
      exact ⟨⟨T, T, T⟩, rfl, rfl⟩
def halterref26_What.l0 (a0 : Int) : Nat → Int → Option ((Unit) ⊕ (Int × Int))
  | 0, _ => none
  | n + 1, x1 =>
    if x1 < (4 : Int) then
      (halterref26_What.l1 x1 a0 FUEL (0 : Int)).bind fun t23 =>
      match t23 with
      | .inl t29 =>
        halterref26_What.l0 a0 n (IntKind.wrap .i64 (x1 + (1 : Int)))
      | .inr t30 =>
        some (.inr (x1, t30))
    else
      some (.inl ())
def halterref26_What.l0_S (a0 : Int) (x1 : Int) : St := ⟨[vi .u32 a0, A, A, A, A, vi .i64 x1, A, A, A, A, A, A, A, A, A, A, A, A, A, A, A, A, A, A, A, A, A, A, A, A, A, A], [], 0⟩
def halterref26_What.l0_Q (a0 : Int) : (Unit) ⊕ (Int × Int) → Exit → St → Prop
  | .inl t => fun e s => e = (.exit 0) ∧ s = ⟨[A, A, A, A, A, A, A, A, A, A, A, A, A, A, A, A, A, A, A, A, A, A, A, A, A, A, A, A, A, A, A, A], [], 0⟩
  | .inr t => fun e s => e = .ret ∧ s = ⟨[A, A, vi .i64 t.1, vi .i64 t.2, vi .i64 (0 : Int), A, A, A, A, A, A, A, A, A, A, A, A, A, A, A, A, A, A, A, A, A, A, A, A, A, A, A], [], 0⟩
theorem halterref26_What.l0_ok (a0 : Int) : ∀ (n : Nat) (x1 : Int) (r : (Unit) ⊕ (Int × Int)), halterref26_What.l0 a0 n x1 = some r → TripN cfg (cpath (Tryz.f76.body.getD .skip) [1, 0, 1, 0, 0]) n (halterref26_What.l0_S a0 x1) (halterref26_What.l0_Q a0 r) := by
  intro n
  induction n with
  | zero => intro x1 r h; cases h
  | succ n ih =>
    intro x1 r h
    rw [halterref26_What.l0] at h
    refine TripN.of_run cfg_ok (k := (.br (aE 4 (.adj [.keep [0, 5, 6]] (.alt (.sub (Unit) (fun _ => (.exit 2)) (fun t29 => ⟨[vi .u32 a0, A, A, A, A, vi .i64 x1, A, A, A, A, A, A, A, A, A, A, A, A, A, A, A, A, A, A, A, A, A, A, A, A, A, A], [], 0⟩) (fun t29 => (.adj [] (.adj [.keep [0, 5], .drop 0] .nil)))) (.sub (Int) (fun _ => .ret) (fun t30 => ⟨[A, A, vi .i64 x1, vi .i64 t30, vi .i64 (0 : Int), A, A, A, A, A, A, A, A, A, A, A, A, A, A, A, A, A, A, A, A, A, A, A, A, A, A, A], [], 0⟩) (fun t30 => .nil))))) (.adj [.keep [], .drop 0] .nil))) (to_goal (q := (U) ∧ (((decide (x1 < (4 : Int))) = true → (U ∧ (U ∧ (U ∧ (U ∧ (((U) ∧ U) ∧ ((∃ t29 : Unit, Trip cfg (.loop (cpath (Tryz.f76.body.getD .skip) [1, 0, 1, 0, 0, 1, 0, 0, 1, 0, 0])) ⟨[vi .u32 a0, A, A, A, A, vi .i64 x1, vi .i64 (0 : Int), A, A, A, A, A, A, A, A, A, A, A, A, A, A, A, A, A, A, A, A, A, A, A, A, A], [], 0⟩ (fun e s => e = (.exit 2) ∧ s = ⟨[vi .u32 a0, A, A, A, A, vi .i64 x1, A, A, A, A, A, A, A, A, A, A, A, A, A, A, A, A, A, A, A, A, A, A, A, A, A, A], [], 0⟩) ∧ (U ∧ (U) ∧ (((U) ∧ (U) ∧ U) ∧ TripN cfg (cpath (Tryz.f76.body.getD .skip) [1, 0, 1, 0, 0]) n (halterref26_What.l0_S a0 (IntKind.wrap .i64 (x1 + (1 : Int)))) (halterref26_What.l0_Q a0 r)))) ∨ (∃ t30 : Int, Trip cfg (.loop (cpath (Tryz.f76.body.getD .skip) [1, 0, 1, 0, 0, 1, 0, 0, 1, 0, 0])) ⟨[vi .u32 a0, A, A, A, A, vi .i64 x1, vi .i64 (0 : Int), A, A, A, A, A, A, A, A, A, A, A, A, A, A, A, A, A, A, A, A, A, A, A, A, A], [], 0⟩ (fun e s => e = .ret ∧ s = ⟨[A, A, vi .i64 x1, vi .i64 t30, vi .i64 (0 : Int), A, A, A, A, A, A, A, A, A, A, A, A, A, A, A, A, A, A, A, A, A, A, A, A, A, A, A], [], 0⟩) ∧ (halterref26_What.l0_Q a0 r .ret ⟨[A, A, vi .i64 x1, vi .i64 t30, vi .i64 (0 : Int), A, A, A, A, A, A, A, A, A, A, A, A, A, A, A, A, A, A, A, A, A, A, A, A, A, A, A], [], 0⟩))))))))) ∧ ((decide (x1 < (4 : Int))) = false → (((U) ∧ (U) ∧ U) ∧ halterref26_What.l0_Q a0 r (.exit 0) ⟨[A, A, A, A, A, A, A, A, A, A, A, A, A, A, A, A, A, A, A, A, A, A, A, A, A, A, A, A, A, A, A, A], [], 0⟩)))) (by kernel_rfl) ?_)
    refine tI ?_
    refine ⟨fun b16 => ?_, fun b16 => ?_⟩
    · rw [if_pos (dT_ b16)] at h
      refine ⟨T, T, T, T, ?_⟩
      obtain ⟨t23, ht23, h⟩ := of_bind h
      refine ⟨⟨T, T⟩, ?_⟩
      rcases t23 with t29 | t30
      · dsimp only at h
        left
        refine ⟨t29, Trip.loop FUEL (halterref26_What.l1_ok x1 a0 FUEL (0 : Int) (.inl t29) ht23), ?_⟩
        refine ⟨T, T, ?_⟩
        exact ⟨⟨T, T, T⟩, ih (IntKind.wrap .i64 (x1 + (1 : Int))) r h⟩
      · dsimp only at h
        right
        refine ⟨t30, Trip.loop FUEL (halterref26_What.l1_ok x1 a0 FUEL (0 : Int) (.inr t30) ht23), ?_⟩
        obtain rfl := oi h
        exact ⟨rfl, rfl⟩
    · rw [if_neg (dF_ b16)] at h
      obtain rfl := oi h
      exact ⟨⟨T, T, T⟩, rfl, rfl⟩
def halterref26_What.f (a0 : Int) : Option (Int × Int × Int) :=
  (halterref26_What.l0 a0 FUEL (0 : Int)).bind fun t15 =>
  match t15 with
  | .inl t34 =>
    some ((0 : Int), (0 : Int), (22 : Int))
  | .inr t35 =>
    some (t35.1, t35.2, (0 : Int))
def halterref26_What.R (r : Int × Int × Int) : Tm := .tup [.one (.sc (.int .i64 r.1)), .one (.sc (.int .i64 r.2.1)), .one (.sc (.int .i64 r.2.2))]
theorem halterref26_What.fun_ {a0 : Int} {r : Int × Int × Int} (h : halterref26_What.f a0 = some r) : Fun cfg 76 [.one (.sc (.int .u32 a0))] [] (halterref26_What.R r) [] := by
  unfold halterref26_What.f at h
  refine fun_of_run cfg_ok (f := 76) (fn := Tryz.f76) Tryz.func76 rfl (by kernel_rfl) (rs := [.tmp 2, .tmp 3, .tmp 4]) rfl (nt := 32) rfl (l := fin) (k := (aE 3 (.adj [.keep [0, 5]] (.alt (.sub (Unit) (fun _ => (.exit 0)) (fun t34 => ⟨[A, A, A, A, A, A, A, A, A, A, A, A, A, A, A, A, A, A, A, A, A, A, A, A, A, A, A, A, A, A, A, A], [], 0⟩) (fun t34 => (aE 3 .nil))) (.sub (Int × Int) (fun _ => .ret) (fun t35 => ⟨[A, A, vi .i64 t35.1, vi .i64 t35.2, vi .i64 (0 : Int), A, A, A, A, A, A, A, A, A, A, A, A, A, A, A, A, A, A, A, A, A, A, A, A, A, A, A], [], 0⟩) (fun t35 => (.adj [] .nil))))))) (to_goal (q := (U ∧ (U ∧ (U ∧ (((U) ∧ U) ∧ ((∃ t34 : Unit, Trip cfg (.loop (cpath (Tryz.f76.body.getD .skip) [1, 0, 1, 0, 0])) ⟨[vi .u32 a0, A, A, A, A, vi .i64 (0 : Int), A, A, A, A, A, A, A, A, A, A, A, A, A, A, A, A, A, A, A, A, A, A, A, A, A, A], [], 0⟩ (fun e s => e = (.exit 0) ∧ s = ⟨[A, A, A, A, A, A, A, A, A, A, A, A, A, A, A, A, A, A, A, A, A, A, A, A, A, A, A, A, A, A, A, A], [], 0⟩) ∧ (U ∧ (U ∧ ((U) ∧ (U) ∧ (.tup [.one (.sc (.int .i64 (0 : Int))), .one (.sc (.int .i64 (0 : Int))), .one (.sc (.int .i64 (22 : Int)))] : Tm) = halterref26_What.R r ∧ ([] : List Box) = [])))) ∨ (∃ t35 : Int × Int, Trip cfg (.loop (cpath (Tryz.f76.body.getD .skip) [1, 0, 1, 0, 0])) ⟨[vi .u32 a0, A, A, A, A, vi .i64 (0 : Int), A, A, A, A, A, A, A, A, A, A, A, A, A, A, A, A, A, A, A, A, A, A, A, A, A, A], [], 0⟩ (fun e s => e = .ret ∧ s = ⟨[A, A, vi .i64 t35.1, vi .i64 t35.2, vi .i64 (0 : Int), A, A, A, A, A, A, A, A, A, A, A, A, A, A, A, A, A, A, A, A, A, A, A, A, A, A, A], [], 0⟩) ∧ ((U) ∧ (U) ∧ (.tup [.one (.sc (.int .i64 t35.1)), .one (.sc (.int .i64 t35.2)), .one (.sc (.int .i64 (0 : Int)))] : Tm) = halterref26_What.R r ∧ ([] : List Box) = [])))))))) (by kernel_rfl) ?_)
  refine ⟨T, T, T, ?_⟩
  obtain ⟨t15, ht15, h⟩ := of_bind h
  refine ⟨⟨T, T⟩, ?_⟩
  rcases t15 with t34 | t35
  · dsimp only at h
    left
    refine ⟨t34, Trip.loop FUEL (halterref26_What.l0_ok a0 FUEL (0 : Int) (.inl t34) ht15), ?_⟩
    refine ⟨T, T, ?_⟩
    obtain rfl := oi h
    exact ⟨T, T, rfl, rfl⟩
  · dsimp only at h
    right
    refine ⟨t35, Trip.loop FUEL (halterref26_What.l0_ok a0 FUEL (0 : Int) (.inr t35) ht15), ?_⟩
    obtain rfl := oi h
    exact ⟨T, T, rfl, rfl⟩
/-! halter/halterref27.Reports -/
def halterref27_Reports.f (a0 : Int) : Option Bool :=
  (halterref26_What.f a0).bind fun t1 =>
  if t1.2.2 = (0 : Int) then
    some (decide (t1.1 ≥ (2 : Int)))
  else
    some false
def halterref27_Reports.R (r : Bool) : Tm := .v (.one (.sc (.bool r)))
theorem halterref27_Reports.fun_ {a0 : Int} {r : Bool} (h : halterref27_Reports.f a0 = some r) : Fun cfg 62 [.one (.sc (.int .u32 a0))] [] (halterref27_Reports.R r) [] := by
  unfold halterref27_Reports.f at h
  refine fun_of_run cfg_ok (f := 62) (fn := Tryz.f62) Tryz.func62 rfl (by kernel_rfl) (rs := [.tmp 2]) rfl (nt := 18) rfl (l := fin) (k := (.call true [] (Int × Int × Int) halterref26_What.R (fun t1 => (.br (oT 2 (aE 2 .nil)) (oF 2 (aE 2 .nil)))))) (to_goal (q := (∃ t1 : Int × Int × Int, (Fun cfg 76 [.one (.sc (.int .u32 a0))] [] (halterref26_What.R t1) [] ∧ U) ∧ (U) ∧ ((((z2 t1) == (0 : Int)) = true → (((z2 t1) == (0 : Int)) = true ∧ (U) ∧ (((z2 t1) == (0 : Int)) = true ∧ (U ∧ ((U) ∧ (U) ∧ (.v (.one (.sc (.bool (decide (t1.1 ≥ (2 : Int)))))) : Tm) = halterref27_Reports.R r ∧ ([] : List Box) = []))))) ∧ (((z2 t1) == (0 : Int)) = false → (((z2 t1) == (0 : Int)) = false ∧ (((z2 t1) == (0 : Int)) = false ∧ (U ∧ ((U) ∧ (U) ∧ (.v (.one (.sc (.bool false))) : Tm) = halterref27_Reports.R r ∧ ([] : List Box) = [])))))))) (by kernel_rfl) ?_)
  obtain ⟨t1, ht1, h⟩ := of_bind h
  refine ⟨t1, ⟨halterref26_What.fun_ ht1, T⟩, ?_⟩
  refine tI ?_
  refine ⟨fun b2 => ?_, fun b2 => ?_⟩
  · rw [if_pos (beq_t b2)] at h
    refine ⟨b2, ?_⟩
    refine tI ?_
    refine ⟨b2, ?_⟩
    refine tI ?_
    obtain rfl := oi h
    exact ⟨T, T, rfl, rfl⟩
  · rw [if_neg (beq_f b2)] at h
    refine ⟨b2, ?_⟩
    refine ⟨b2, ?_⟩
    refine tI ?_
    obtain rfl := oi h
    exact ⟨T, T, rfl, rfl⟩
/-! halter/halterref27.May -/
def halterref27_May.f (a0 : Int) (a1 : Bool) (a2 : Int) (a3 : Int) (a4 : Int) (a5 : Bool) : Option Bool :=
  if a0 = (0 : Int) then
    if ¬ (a1 = true) then
      if a2 = (0 : Int) then
        if a3 = (0 : Int) then
          if a4 = (0 : Int) then
            some (!a5)
          else
            some false
        else
          some false
      else
        some false
    else
      some false
  else
    if a0 < (1 : Int) then
      some false
    else
      if a0 > (99 : Int) then
        some false
      else
        if a3 < (0 : Int) then
          some false
        else
          if a3 > (2 : Int) then
            some false
          else
            if a4 < (0 : Int) then
              some false
            else
              if a4 > (31 : Int) then
                some false
              else
                if ¬ a2 = (0 : Int) then
                  if ¬ (a1 = true) then
                    some false
                  else
                    (halterref27_Reports.f a2).bind fun t14 =>
                    if ¬ (t14 = true) then
                      some false
                    else
                      if ¬ (a5 = true) then
                        some true
                      else
                        some (a3 == (2 : Int))
                else
                  if ¬ (a5 = true) then
                    some true
                  else
                    some (a3 == (2 : Int))
def halterref27_May.R (r : Bool) : Tm := .v (.one (.sc (.bool r)))
theorem halterref27_May.fun_ {a0 : Int} {a1 : Bool} {a2 : Int} {a3 : Int} {a4 : Int} {a5 : Bool} {r : Bool} (h : halterref27_May.f a0 a1 a2 a3 a4 a5 = some r) : Fun cfg 43 [.agg [.c (.sc (.int .i64 a0)), .c (.sc (.bool a1)), .c (.sc (.int .u32 a2)), .c (.sc (.int .i64 a3)), .c (.sc (.int .i64 a4)), .c (.sc (.bool a5))]] [] (halterref27_May.R r) [] := by
  unfold halterref27_May.f at h
  refine fun_of_run cfg_ok (f := 43) (fn := Tryz.f43) Tryz.func43 rfl (by kernel_rfl) (rs := [.tmp 2]) rfl (nt := 79) rfl (l := fin) (k := (.br (.br (oT 3 (.br (oT 3 (.br (oT 3 (.br (oT 3 (.adj [] (.adj [.drop 0] .nil))) (oF 3 (.adj [] (.adj [.drop 0] .nil))))) (oF 7 (.adj [] (.adj [.drop 0] .nil))))) (oF 11 (.adj [] (.adj [.drop 0] .nil))))) (oF 15 (.adj [] (.adj [.drop 0] .nil)))) (.br (oT 20 (aE 2 (.adj [.drop 0] .nil))) (oF 3 (.br (oT 16 (aE 2 (.adj [.drop 0] .nil))) (oF 3 (.br (oT 12 (aE 2 (.adj [.drop 0] .nil))) (oF 3 (.br (oT 8 (aE 2 (.adj [.drop 0] .nil))) (oF 3 (.br (oT 4 (aE 2 (.adj [.drop 0] .nil))) (oF 3 (.br (aE 2 (.adj [.drop 0] .nil)) (.br (oT 3 (.br (oT 7 (aE 2 (.adj [.drop 0] .nil))) (oF 2 (.call true [] (Bool) halterref27_Reports.R (fun t14 => (.one false (.one true (.one false (.one true (.br (aE 2 (.adj [.drop 0] .nil)) (.br (oT 3 (.adj [] (.adj [.drop 0] .nil))) (oF 3 (.adj [] (.adj [.drop 0] .nil)))))))))))))) (oF 6 (.br (oT 3 (.adj [] (.adj [.drop 0] .nil))) (oF 3 (.adj [] (.adj [.drop 0] .nil))))))))))))))))))) (to_goal (q := (U) ∧ (U) ∧ (((a0 == (0 : Int)) = true → (U) ∧ (((!a1) = true → ((!a1) = true ∧ (U) ∧ ((!a1) = true ∧ (U) ∧ ((!a1) = true ∧ (((a2 == (0 : Int)) = true → ((a2 == (0 : Int)) = true ∧ (U) ∧ ((a2 == (0 : Int)) = true ∧ (U) ∧ ((a2 == (0 : Int)) = true ∧ (((a3 == (0 : Int)) = true → ((a3 == (0 : Int)) = true ∧ (U) ∧ ((a3 == (0 : Int)) = true ∧ (U) ∧ ((a3 == (0 : Int)) = true ∧ (((a4 == (0 : Int)) = true → ((a4 == (0 : Int)) = true ∧ (U) ∧ ((a4 == (0 : Int)) = true ∧ ((a4 == (0 : Int)) = true ∧ (U ∧ ((U) ∧ ((U) ∧ U) ∧ (.v (.one (.sc (.bool (!a5)))) : Tm) = halterref27_May.R r ∧ ([] : List Box) = [])))))) ∧ ((a4 == (0 : Int)) = false → ((a4 == (0 : Int)) = false ∧ ((a4 == (0 : Int)) = false ∧ ((a4 == (0 : Int)) = false ∧ (U ∧ ((U) ∧ ((U) ∧ U) ∧ (.v (.one (.sc (.bool false))) : Tm) = halterref27_May.R r ∧ ([] : List Box) = []))))))))))) ∧ ((a3 == (0 : Int)) = false → ((a3 == (0 : Int)) = false ∧ ((a3 == (0 : Int)) = false ∧ ((a3 == (0 : Int)) = false ∧ (false = false ∧ (false = false ∧ (false = false ∧ (false = false ∧ (U ∧ ((U) ∧ ((U) ∧ U) ∧ (.v (.one (.sc (.bool false))) : Tm) = halterref27_May.R r ∧ ([] : List Box) = []))))))))))))))) ∧ ((a2 == (0 : Int)) = false → ((a2 == (0 : Int)) = false ∧ ((a2 == (0 : Int)) = false ∧ ((a2 == (0 : Int)) = false ∧ (false = false ∧ (false = false ∧ (false = false ∧ (false = false ∧ (false = false ∧ (false = false ∧ (false = false ∧ (false = false ∧ (U ∧ ((U) ∧ ((U) ∧ U) ∧ (.v (.one (.sc (.bool false))) : Tm) = halterref27_May.R r ∧ ([] : List Box) = []))))))))))))))))))) ∧ ((!a1) = false → ((!a1) = false ∧ ((!a1) = false ∧ ((!a1) = false ∧ (false = false ∧ (false = false ∧ (false = false ∧ (false = false ∧ (false = false ∧ (false = false ∧ (false = false ∧ (false = false ∧ (false = false ∧ (false = false ∧ (false = false ∧ (false = false ∧ (U ∧ ((U) ∧ ((U) ∧ U) ∧ (.v (.one (.sc (.bool false))) : Tm) = halterref27_May.R r ∧ ([] : List Box) = [])))))))))))))))))))) ∧ ((a0 == (0 : Int)) = false → (U) ∧ (U) ∧ (((decide (a0 < (1 : Int))) = false → ((decide (a0 < (1 : Int))) = false ∧ (U) ∧ ((decide (a0 < (1 : Int))) = false ∧ (U) ∧ ((decide (a0 < (1 : Int))) = false ∧ (((decide (a0 > (99 : Int))) = false → ((decide (a0 > (99 : Int))) = false ∧ (U) ∧ ((decide (a0 > (99 : Int))) = false ∧ (U) ∧ ((decide (a0 > (99 : Int))) = false ∧ (((decide (a3 < (0 : Int))) = false → ((decide (a3 < (0 : Int))) = false ∧ (U) ∧ ((decide (a3 < (0 : Int))) = false ∧ (U) ∧ ((decide (a3 < (0 : Int))) = false ∧ (((decide (a3 > (2 : Int))) = false → ((decide (a3 > (2 : Int))) = false ∧ (U) ∧ ((decide (a3 > (2 : Int))) = false ∧ (U) ∧ ((decide (a3 > (2 : Int))) = false ∧ (((decide (a4 < (0 : Int))) = false → ((decide (a4 < (0 : Int))) = false ∧ (U) ∧ ((decide (a4 < (0 : Int))) = false ∧ (U) ∧ ((decide (a4 < (0 : Int))) = false ∧ (((decide (a4 > (31 : Int))) = true → (U ∧ (U ∧ ((U) ∧ ((U) ∧ U) ∧ (.v (.one (.sc (.bool false))) : Tm) = halterref27_May.R r ∧ ([] : List Box) = [])))) ∧ ((decide (a4 > (31 : Int))) = false → (U) ∧ (U) ∧ (((a2 != (0 : Int)) = true → ((a2 != (0 : Int)) = true ∧ (U) ∧ ((a2 != (0 : Int)) = true ∧ ((a2 != (0 : Int)) = true ∧ (((!a1) = false → ((!a1) = false ∧ (U) ∧ ((!a1) = false ∧ (∃ t14 : Bool, (Fun cfg 62 [.one (.sc (.int .u32 a2))] [] (halterref27_Reports.R t14) [] ∧ U) ∧ ((!a1) = false ∧ ((a2 != (0 : Int)) = true ∧ ((!a1) = false ∧ ((a2 != (0 : Int)) = true ∧ (((!t14) = true → (U ∧ (U ∧ ((U) ∧ ((U) ∧ U) ∧ (.v (.one (.sc (.bool false))) : Tm) = halterref27_May.R r ∧ ([] : List Box) = [])))) ∧ ((!t14) = false → (U) ∧ (((!a5) = false → ((!a5) = false ∧ (U) ∧ ((!a5) = false ∧ (U) ∧ ((!a5) = false ∧ (U ∧ ((U) ∧ ((U) ∧ U) ∧ (.v (.one (.sc (.bool (a3 == (2 : Int))))) : Tm) = halterref27_May.R r ∧ ([] : List Box) = [])))))) ∧ ((!a5) = true → ((!a5) = true ∧ ((!a5) = true ∧ ((!a5) = true ∧ (U ∧ ((U) ∧ ((U) ∧ U) ∧ (.v (.one (.sc (.bool true))) : Tm) = halterref27_May.R r ∧ ([] : List Box) = []))))))))))))))))) ∧ ((!a1) = true → ((!a1) = true ∧ ((!a1) = true ∧ ((!a1) = true ∧ ((a2 != (0 : Int)) = true ∧ ((!a1) = true ∧ ((a2 != (0 : Int)) = true ∧ (true = true ∧ (U ∧ (U ∧ ((U) ∧ ((U) ∧ U) ∧ (.v (.one (.sc (.bool false))) : Tm) = halterref27_May.R r ∧ ([] : List Box) = [])))))))))))))))) ∧ ((a2 != (0 : Int)) = false → ((a2 != (0 : Int)) = false ∧ ((a2 != (0 : Int)) = false ∧ ((a2 != (0 : Int)) = false ∧ ((a2 != (0 : Int)) = false ∧ ((a2 != (0 : Int)) = false ∧ (false = false ∧ (U) ∧ (((!a5) = false → ((!a5) = false ∧ (U) ∧ ((!a5) = false ∧ (U) ∧ ((!a5) = false ∧ (U ∧ ((U) ∧ ((U) ∧ U) ∧ (.v (.one (.sc (.bool (a3 == (2 : Int))))) : Tm) = halterref27_May.R r ∧ ([] : List Box) = [])))))) ∧ ((!a5) = true → ((!a5) = true ∧ ((!a5) = true ∧ ((!a5) = true ∧ (U ∧ ((U) ∧ ((U) ∧ U) ∧ (.v (.one (.sc (.bool true))) : Tm) = halterref27_May.R r ∧ ([] : List Box) = []))))))))))))))))))))) ∧ ((decide (a4 < (0 : Int))) = true → ((decide (a4 < (0 : Int))) = true ∧ ((decide (a4 < (0 : Int))) = true ∧ ((decide (a4 < (0 : Int))) = true ∧ (true = true ∧ (U ∧ (U ∧ ((U) ∧ ((U) ∧ U) ∧ (.v (.one (.sc (.bool false))) : Tm) = halterref27_May.R r ∧ ([] : List Box) = []))))))))))))) ∧ ((decide (a3 > (2 : Int))) = true → ((decide (a3 > (2 : Int))) = true ∧ ((decide (a3 > (2 : Int))) = true ∧ ((decide (a3 > (2 : Int))) = true ∧ (true = true ∧ (true = true ∧ (true = true ∧ (true = true ∧ (true = true ∧ (U ∧ (U ∧ ((U) ∧ ((U) ∧ U) ∧ (.v (.one (.sc (.bool false))) : Tm) = halterref27_May.R r ∧ ([] : List Box) = []))))))))))))))))) ∧ ((decide (a3 < (0 : Int))) = true → ((decide (a3 < (0 : Int))) = true ∧ ((decide (a3 < (0 : Int))) = true ∧ ((decide (a3 < (0 : Int))) = true ∧ (true = true ∧ (true = true ∧ (true = true ∧ (true = true ∧ (true = true ∧ (true = true ∧ (true = true ∧ (true = true ∧ (true = true ∧ (U ∧ (U ∧ ((U) ∧ ((U) ∧ U) ∧ (.v (.one (.sc (.bool false))) : Tm) = halterref27_May.R r ∧ ([] : List Box) = []))))))))))))))))))))) ∧ ((decide (a0 > (99 : Int))) = true → ((decide (a0 > (99 : Int))) = true ∧ ((decide (a0 > (99 : Int))) = true ∧ ((decide (a0 > (99 : Int))) = true ∧ (true = true ∧ (true = true ∧ (true = true ∧ (true = true ∧ (true = true ∧ (true = true ∧ (true = true ∧ (true = true ∧ (true = true ∧ (true = true ∧ (true = true ∧ (true = true ∧ (true = true ∧ (U ∧ (U ∧ ((U) ∧ ((U) ∧ U) ∧ (.v (.one (.sc (.bool false))) : Tm) = halterref27_May.R r ∧ ([] : List Box) = []))))))))))))))))))))))))) ∧ ((decide (a0 < (1 : Int))) = true → ((decide (a0 < (1 : Int))) = true ∧ ((decide (a0 < (1 : Int))) = true ∧ ((decide (a0 < (1 : Int))) = true ∧ (true = true ∧ (true = true ∧ (true = true ∧ (true = true ∧ (true = true ∧ (true = true ∧ (true = true ∧ (true = true ∧ (true = true ∧ (true = true ∧ (true = true ∧ (true = true ∧ (true = true ∧ (true = true ∧ (true = true ∧ (true = true ∧ (true = true ∧ (U ∧ (U ∧ ((U) ∧ ((U) ∧ U) ∧ (.v (.one (.sc (.bool false))) : Tm) = halterref27_May.R r ∧ ([] : List Box) = [])))))))))))))))))))))))))))) (by kernel_rfl) ?_)
  refine ⟨T, T, ?_⟩
  refine ⟨fun b1 => ?_, fun b1 => ?_⟩
  · rw [if_pos (beq_t b1)] at h
    refine tI ?_
    refine ⟨fun b2 => ?_, fun b2 => ?_⟩
    · rw [if_pos (ff (not_t b2))] at h
      refine ⟨b2, ?_⟩
      refine tI ?_
      refine ⟨b2, ?_⟩
      refine tI ?_
      refine ⟨b2, ?_⟩
      refine ⟨fun b3 => ?_, fun b3 => ?_⟩
      · rw [if_pos (beq_t b3)] at h
        refine ⟨b3, ?_⟩
        refine tI ?_
        refine ⟨b3, ?_⟩
        refine tI ?_
        refine ⟨b3, ?_⟩
        refine ⟨fun b4 => ?_, fun b4 => ?_⟩
        · rw [if_pos (beq_t b4)] at h
          refine ⟨b4, ?_⟩
          refine tI ?_
          refine ⟨b4, ?_⟩
          refine tI ?_
          refine ⟨b4, ?_⟩
          refine ⟨fun b5 => ?_, fun b5 => ?_⟩
          · rw [if_pos (beq_t b5)] at h
            refine ⟨b5, ?_⟩
            refine tI ?_
            refine ⟨b5, ?_⟩
            refine ⟨b5, ?_⟩
            refine tI ?_
            obtain rfl := oi h
            exact ⟨T, ⟨T, T⟩, rfl, rfl⟩
          · rw [if_neg (beq_f b5)] at h
            refine ⟨b5, ?_⟩
            refine ⟨b5, ?_⟩
            refine ⟨b5, ?_⟩
            refine tI ?_
            obtain rfl := oi h
            exact ⟨T, ⟨T, T⟩, rfl, rfl⟩
        · rw [if_neg (beq_f b4)] at h
          refine ⟨b4, ?_⟩
          refine ⟨b4, ?_⟩
          refine ⟨b4, ?_⟩
          refine ⟨rfl, rfl, rfl, rfl, T, ?_⟩
          obtain rfl := oi h
          exact ⟨T, ⟨T, T⟩, rfl, rfl⟩
      · rw [if_neg (beq_f b3)] at h
        refine ⟨b3, ?_⟩
        refine ⟨b3, ?_⟩
        refine ⟨b3, ?_⟩
        refine ⟨rfl, rfl, rfl, rfl, rfl, rfl, rfl, rfl, T, ?_⟩
        obtain rfl := oi h
        exact ⟨T, ⟨T, T⟩, rfl, rfl⟩
    · rw [if_neg (not_not_intro (not_f b2))] at h
      refine ⟨b2, ?_⟩
      refine ⟨b2, ?_⟩
      refine ⟨b2, ?_⟩
      refine ⟨rfl, rfl, rfl, rfl, rfl, rfl, rfl, rfl, rfl, rfl, rfl, rfl, T, ?_⟩
      obtain rfl := oi h
      exact ⟨T, ⟨T, T⟩, rfl, rfl⟩
  · rw [if_neg (beq_f b1)] at h
    refine ⟨T, T, ?_⟩
    refine ⟨fun b6 => ?_, fun b6 => ?_⟩
    · rw [if_neg (dF_ b6)] at h
      refine ⟨b6, ?_⟩
      refine tI ?_
      refine ⟨b6, ?_⟩
      refine tI ?_
      refine ⟨b6, ?_⟩
      refine ⟨fun b7 => ?_, fun b7 => ?_⟩
      · rw [if_neg (dF_ b7)] at h
        refine ⟨b7, ?_⟩
        refine tI ?_
        refine ⟨b7, ?_⟩
        refine tI ?_
        refine ⟨b7, ?_⟩
        refine ⟨fun b8 => ?_, fun b8 => ?_⟩
        · rw [if_neg (dF_ b8)] at h
          refine ⟨b8, ?_⟩
          refine tI ?_
          refine ⟨b8, ?_⟩
          refine tI ?_
          refine ⟨b8, ?_⟩
          refine ⟨fun b9 => ?_, fun b9 => ?_⟩
          · rw [if_neg (dF_ b9)] at h
            refine ⟨b9, ?_⟩
            refine tI ?_
            refine ⟨b9, ?_⟩
            refine tI ?_
            refine ⟨b9, ?_⟩
            refine ⟨fun b10 => ?_, fun b10 => ?_⟩
            · rw [if_neg (dF_ b10)] at h
              refine ⟨b10, ?_⟩
              refine tI ?_
              refine ⟨b10, ?_⟩
              refine tI ?_
              refine ⟨b10, ?_⟩
              refine ⟨fun b11 => ?_, fun b11 => ?_⟩
              · rw [if_pos (dT_ b11)] at h
                refine ⟨T, T, ?_⟩
                obtain rfl := oi h
                exact ⟨T, ⟨T, T⟩, rfl, rfl⟩
              · rw [if_neg (dF_ b11)] at h
                refine ⟨T, T, ?_⟩
                refine ⟨fun b12 => ?_, fun b12 => ?_⟩
                · rw [if_pos (bne_t b12)] at h
                  refine ⟨b12, ?_⟩
                  refine tI ?_
                  refine ⟨b12, ?_⟩
                  refine ⟨b12, ?_⟩
                  refine ⟨fun b13 => ?_, fun b13 => ?_⟩
                  · rw [if_neg (not_not_intro (not_f b13))] at h
                    refine ⟨b13, ?_⟩
                    refine tI ?_
                    refine ⟨b13, ?_⟩
                    obtain ⟨t14, ht14, h⟩ := of_bind h
                    refine ⟨t14, ⟨halterref27_Reports.fun_ ht14, T⟩, ?_⟩
                    refine ⟨b13, ?_⟩
                    refine ⟨b12, ?_⟩
                    refine ⟨b13, ?_⟩
                    refine ⟨b12, ?_⟩
                    refine ⟨fun b15 => ?_, fun b15 => ?_⟩
                    · rw [if_pos (ff (not_t b15))] at h
                      refine ⟨T, T, ?_⟩
                      obtain rfl := oi h
                      exact ⟨T, ⟨T, T⟩, rfl, rfl⟩
                    · rw [if_neg (not_not_intro (not_f b15))] at h
                      refine tI ?_
                      refine ⟨fun b16 => ?_, fun b16 => ?_⟩
                      · rw [if_neg (not_not_intro (not_f b16))] at h
                        refine ⟨b16, ?_⟩
                        refine tI ?_
                        refine ⟨b16, ?_⟩
                        refine tI ?_
                        refine ⟨b16, ?_⟩
                        refine tI ?_
                        obtain rfl := oi h
                        exact ⟨T, ⟨T, T⟩, rfl, rfl⟩
                      · rw [if_pos (ff (not_t b16))] at h
                        refine ⟨b16, ?_⟩
                        refine ⟨b16, ?_⟩
                        refine ⟨b16, ?_⟩
                        refine tI ?_
                        obtain rfl := oi h
                        exact ⟨T, ⟨T, T⟩, rfl, rfl⟩
                  · rw [if_pos (ff (not_t b13))] at h
                    refine ⟨b13, ?_⟩
                    refine ⟨b13, ?_⟩
                    refine ⟨b13, ?_⟩
                    refine ⟨b12, ?_⟩
                    refine ⟨b13, ?_⟩
                    refine ⟨b12, ?_⟩
                    refine ⟨rfl, T, T, ?_⟩
                    obtain rfl := oi h
                    exact ⟨T, ⟨T, T⟩, rfl, rfl⟩
                · rw [if_neg (not_not_intro (bne_f b12))] at h
                  refine ⟨b12, ?_⟩
                  refine ⟨b12, ?_⟩
                  refine ⟨b12, ?_⟩
                  refine ⟨b12, ?_⟩
                  refine ⟨b12, ?_⟩
                  refine ⟨rfl, T, ?_⟩
                  refine ⟨fun b17 => ?_, fun b17 => ?_⟩
                  · rw [if_neg (not_not_intro (not_f b17))] at h
                    refine ⟨b17, ?_⟩
                    refine tI ?_
                    refine ⟨b17, ?_⟩
                    refine tI ?_
                    refine ⟨b17, ?_⟩
                    refine tI ?_
                    obtain rfl := oi h
                    exact ⟨T, ⟨T, T⟩, rfl, rfl⟩
                  · rw [if_pos (ff (not_t b17))] at h
                    refine ⟨b17, ?_⟩
                    refine ⟨b17, ?_⟩
                    refine ⟨b17, ?_⟩
                    refine tI ?_
                    obtain rfl := oi h
                    exact ⟨T, ⟨T, T⟩, rfl, rfl⟩
            · rw [if_pos (dT_ b10)] at h
              refine ⟨b10, ?_⟩
              refine ⟨b10, ?_⟩
              refine ⟨b10, ?_⟩
              refine ⟨rfl, T, T, ?_⟩
              obtain rfl := oi h
              exact ⟨T, ⟨T, T⟩, rfl, rfl⟩
          · rw [if_pos (dT_ b9)] at h
            refine ⟨b9, ?_⟩
            refine ⟨b9, ?_⟩
            refine ⟨b9, ?_⟩
            refine ⟨rfl, rfl, rfl, rfl, rfl, T, T, ?_⟩
            obtain rfl := oi h
            exact ⟨T, ⟨T, T⟩, rfl, rfl⟩
        · rw [if_pos (dT_ b8)] at h
          refine ⟨b8, ?_⟩
          refine ⟨b8, ?_⟩
          refine ⟨b8, ?_⟩
          refine ⟨rfl, rfl, rfl, rfl, rfl, rfl, rfl, rfl, rfl, T, T, ?_⟩
          obtain rfl := oi h
          exact ⟨T, ⟨T, T⟩, rfl, rfl⟩
      · rw [if_pos (dT_ b7)] at h
        refine ⟨b7, ?_⟩
        refine ⟨b7, ?_⟩
        refine ⟨b7, ?_⟩
        refine ⟨rfl, rfl, rfl, rfl, rfl, rfl, rfl, rfl, rfl, rfl, rfl, rfl, rfl, T, T, ?_⟩
        obtain rfl := oi h
        exact ⟨T, ⟨T, T⟩, rfl, rfl⟩
    · rw [if_pos (dT_ b6)] at h
      refine ⟨b6, ?_⟩
      refine ⟨b6, ?_⟩
      refine ⟨b6, ?_⟩
      refine ⟨rfl, rfl, rfl, rfl, rfl, rfl, rfl, rfl, rfl, rfl, rfl, rfl, rfl, rfl, rfl, rfl, rfl, T, T, ?_⟩
      obtain rfl := oi h
      exact ⟨T, ⟨T, T⟩, rfl, rfl⟩
/-! halter/halterref33.May -/
def halterref33_May.f (a0 : Int) (a1 : Int) (a2 : ByteArray) (a3 : (List Int)) (a4 : Int) (a5 : Int) (a6 : (List Int)) (a7 : (List Int)) (a8 : Int) (a9 : Int) (a10 : (List Int)) (a11 : Int) (a12 : Bool) (a13 : Int) (a14 : Int) (a15 : Int) (a16 : Bool) (a17 : Bool) (a18 : Bool) (a19 : Int) (a20 : Int) : Option Bool :=
  if a0 < (1 : Int) then
    some false
  else
    if a0 > (99 : Int) then
      some false
    else
      (halterref22_Is.f a1).bind fun t3 =>
      if ¬ (t3 = true) then
        some false
      else
        (halterref16_Check.f a2).bind fun t5 =>
        if ¬ t5 = (0 : Int) then
          some false
        else
          if a5 > (31 : Int) then
            some false
          else
            (halterref20_May.f a7).bind fun t8 =>
            if ¬ (t8 = true) then
              some false
            else
              (halterref25_May.f a8 a9 a10).bind fun t10 =>
              if ¬ (t10 = true) then
                some false
              else
                (halterref27_May.f a11 a12 a13 a14 a15 a16).bind fun t12 =>
                if ¬ (t12 = true) then
                  some false
                else
                  if a19 ≥ (0 : Int) then
                    if a19 ≤ (29 : Int) then
                      if a20 ≥ (0 : Int) then
                        if a20 ≤ (4080 : Int) then
                          if a17 = true then
                            some true
                          else
                            some (!a18)
                        else
                          some false
                      else
                        some false
                    else
                      some false
                  else
                    some false
def halterref33_May.R (r : Bool) : Tm := .v (.one (.sc (.bool r)))
theorem halterref33_May.fun_ {a0 : Int} {a1 : Int} {a2 : ByteArray} {a3 : (List Int)} {a4 : Int} {a5 : Int} {a6 : (List Int)} {a7 : (List Int)} {a8 : Int} {a9 : Int} {a10 : (List Int)} {a11 : Int} {a12 : Bool} {a13 : Int} {a14 : Int} {a15 : Int} {a16 : Bool} {a17 : Bool} {a18 : Bool} {a19 : Int} {a20 : Int} {r : Bool} (h : halterref33_May.f a0 a1 a2 a3 a4 a5 a6 a7 a8 a9 a10 a11 a12 a13 a14 a15 a16 a17 a18 a19 a20 = some r) : Fun cfg 21 [.agg [.c (.sc (.int .i64 a0)), .c (.sc (.int .i64 a1)), .c (.sc (.string a2)), .row 16 (.int .u32) a3, .c (.sc (.int .u32 a4)), .c (.sc (.int .u32 a5)), .row 4 (.int .u64) a6, .row 8 (.int .i64) a7, .c (.sc (.int .u32 a8)), .c (.sc (.int .u32 a9)), .row 32 (.int .u32) a10, .c (.sc (.int .i64 a11)), .c (.sc (.bool a12)), .c (.sc (.int .u32 a13)), .c (.sc (.int .i64 a14)), .c (.sc (.int .i64 a15)), .c (.sc (.bool a16)), .c (.sc (.bool a17)), .c (.sc (.bool a18)), .c (.sc (.int .i64 a19)), .c (.sc (.int .i64 a20))]] [] (halterref33_May.R r) [] := by
  unfold halterref33_May.f at h
  refine fun_of_run cfg_ok (f := 21) (fn := Tryz.f21) Tryz.func21 rfl (by kernel_rfl) (rs := [.tmp 2]) rfl (nt := 74) rfl (l := fin) (k := (.br (oT 34 (aE 2 (.adj [.drop 0] .nil))) (oF 3 (.br (oT 30 (aE 2 (.adj [.drop 0] .nil))) (oF 2 (.call true [] (Bool) halterref22_Is.R (fun t3 => (oF 2 (.br (oT 25 (aE 2 (.adj [.drop 0] .nil))) (oF 2 (.call true [] (Int) halterref16_Check.R (fun t5 => (oF 2 (.br (oT 20 (aE 2 (.adj [.drop 0] .nil))) (oF 4 (.br (oT 15 (aE 2 (.adj [.drop 0] .nil))) (oF 2 (.call true [] (Bool) halterref20_May.R (fun t8 => (oF 2 (.br (oT 10 (aE 2 (.adj [.drop 0] .nil))) (oF 2 (.call true [] (Bool) halterref25_May.R (fun t10 => (oF 2 (.br (oT 5 (aE 2 (.adj [.drop 0] .nil))) (oF 2 (.call true [] (Bool) halterref27_May.R (fun t12 => (oF 2 (.br (aE 2 (.adj [.drop 0] .nil)) (.br (oT 3 (.br (oT 3 (.br (oT 3 (.br (oT 2 (.br (oT 5 (.adj [] (.adj [.drop 0] .nil))) (oF 2 (.one true (.one false (.one true (.adj [] (.adj [.drop 0] .nil)))))))) (oF 4 (.adj [] (.adj [.drop 0] .nil))))) (oF 8 (.adj [] (.adj [.drop 0] .nil))))) (oF 12 (.adj [] (.adj [.drop 0] .nil))))) (oF 16 (.adj [] (.adj [.drop 0] .nil))))))))))))))))))))))))))))))))))) (to_goal (q := (U) ∧ (U) ∧ (((decide (a0 < (1 : Int))) = false → ((decide (a0 < (1 : Int))) = false ∧ (U) ∧ ((decide (a0 < (1 : Int))) = false ∧ (U) ∧ ((decide (a0 < (1 : Int))) = false ∧ (((decide (a0 > (99 : Int))) = false → ((decide (a0 > (99 : Int))) = false ∧ (U) ∧ ((decide (a0 > (99 : Int))) = false ∧ (∃ t3 : Bool, (Fun cfg 40 [.one (.sc (.int .i64 a1))] [] (halterref22_Is.R t3) [] ∧ U) ∧ ((decide (a0 > (99 : Int))) = false ∧ ((decide (a0 > (99 : Int))) = false ∧ (((!t3) = false → ((!t3) = false ∧ (U) ∧ ((!t3) = false ∧ (∃ t5 : Int, (Fun cfg 28 [.one (.sc (.string a2))] [] (halterref16_Check.R t5) [] ∧ U) ∧ ((!t3) = false ∧ (U) ∧ ((!t3) = false ∧ (((t5 != (0 : Int)) = false → ((t5 != (0 : Int)) = false ∧ ((t5 != (0 : Int)) = false ∧ (U) ∧ ((t5 != (0 : Int)) = false ∧ (U) ∧ ((t5 != (0 : Int)) = false ∧ (((decide (a5 > (31 : Int))) = false → ((decide (a5 > (31 : Int))) = false ∧ (U) ∧ ((decide (a5 > (31 : Int))) = false ∧ (∃ t8 : Bool, (Fun cfg 41 [.agg [.row 8 (.int .i64) a7]] [] (halterref20_May.R t8) [] ∧ U) ∧ ((decide (a5 > (31 : Int))) = false ∧ ((decide (a5 > (31 : Int))) = false ∧ (((!t8) = false → ((!t8) = false ∧ (U) ∧ ((!t8) = false ∧ (∃ t10 : Bool, (Fun cfg 42 [.agg [.c (.sc (.int .u32 a8)), .c (.sc (.int .u32 a9)), .row 32 (.int .u32) a10]] [] (halterref25_May.R t10) [] ∧ U) ∧ ((!t8) = false ∧ ((!t8) = false ∧ (((!t10) = false → ((!t10) = false ∧ (U) ∧ ((!t10) = false ∧ (∃ t12 : Bool, (Fun cfg 43 [.agg [.c (.sc (.int .i64 a11)), .c (.sc (.bool a12)), .c (.sc (.int .u32 a13)), .c (.sc (.int .i64 a14)), .c (.sc (.int .i64 a15)), .c (.sc (.bool a16))]] [] (halterref27_May.R t12) [] ∧ U) ∧ ((!t10) = false ∧ ((!t10) = false ∧ (((!t12) = true → (U ∧ (U ∧ ((U) ∧ ((U) ∧ U) ∧ (.v (.one (.sc (.bool false))) : Tm) = halterref33_May.R r ∧ ([] : List Box) = [])))) ∧ ((!t12) = false → (U) ∧ (U) ∧ (((decide (a19 ≥ (0 : Int))) = true → ((decide (a19 ≥ (0 : Int))) = true ∧ (U) ∧ ((decide (a19 ≥ (0 : Int))) = true ∧ (U) ∧ ((decide (a19 ≥ (0 : Int))) = true ∧ (((decide (a19 ≤ (29 : Int))) = true → ((decide (a19 ≤ (29 : Int))) = true ∧ (U) ∧ ((decide (a19 ≤ (29 : Int))) = true ∧ (U) ∧ ((decide (a19 ≤ (29 : Int))) = true ∧ (((decide (a20 ≥ (0 : Int))) = true → ((decide (a20 ≥ (0 : Int))) = true ∧ (U) ∧ ((decide (a20 ≥ (0 : Int))) = true ∧ (U) ∧ ((decide (a20 ≥ (0 : Int))) = true ∧ (((decide (a20 ≤ (4080 : Int))) = true → ((decide (a20 ≤ (4080 : Int))) = true ∧ (U) ∧ ((decide (a20 ≤ (4080 : Int))) = true ∧ ((a17 = false → (a17 = false ∧ (U) ∧ (a17 = false ∧ ((decide (a20 ≤ (4080 : Int))) = true ∧ (a17 = false ∧ ((decide (a20 ≤ (4080 : Int))) = true ∧ (U ∧ ((U) ∧ ((U) ∧ U) ∧ (.v (.one (.sc (.bool (!a18)))) : Tm) = halterref33_May.R r ∧ ([] : List Box) = [])))))))) ∧ (a17 = true → (a17 = true ∧ (a17 = true ∧ ((decide (a20 ≤ (4080 : Int))) = true ∧ (a17 = true ∧ ((decide (a20 ≤ (4080 : Int))) = true ∧ (U ∧ ((U) ∧ ((U) ∧ U) ∧ (.v (.one (.sc (.bool true))) : Tm) = halterref33_May.R r ∧ ([] : List Box) = [])))))))))))) ∧ ((decide (a20 ≤ (4080 : Int))) = false → ((decide (a20 ≤ (4080 : Int))) = false ∧ ((decide (a20 ≤ (4080 : Int))) = false ∧ ((decide (a20 ≤ (4080 : Int))) = false ∧ ((decide (a20 ≤ (4080 : Int))) = false ∧ (U ∧ ((U) ∧ ((U) ∧ U) ∧ (.v (.one (.sc (.bool false))) : Tm) = halterref33_May.R r ∧ ([] : List Box) = [])))))))))))) ∧ ((decide (a20 ≥ (0 : Int))) = false → ((decide (a20 ≥ (0 : Int))) = false ∧ ((decide (a20 ≥ (0 : Int))) = false ∧ ((decide (a20 ≥ (0 : Int))) = false ∧ (false = false ∧ (false = false ∧ (false = false ∧ (false = false ∧ (false = false ∧ (U ∧ ((U) ∧ ((U) ∧ U) ∧ (.v (.one (.sc (.bool false))) : Tm) = halterref33_May.R r ∧ ([] : List Box) = [])))))))))))))))) ∧ ((decide (a19 ≤ (29 : Int))) = false → ((decide (a19 ≤ (29 : Int))) = false ∧ ((decide (a19 ≤ (29 : Int))) = false ∧ ((decide (a19 ≤ (29 : Int))) = false ∧ (false = false ∧ (false = false ∧ (false = false ∧ (false = false ∧ (false = false ∧ (false = false ∧ (false = false ∧ (false = false ∧ (false = false ∧ (U ∧ ((U) ∧ ((U) ∧ U) ∧ (.v (.one (.sc (.bool false))) : Tm) = halterref33_May.R r ∧ ([] : List Box) = [])))))))))))))))))))) ∧ ((decide (a19 ≥ (0 : Int))) = false → ((decide (a19 ≥ (0 : Int))) = false ∧ ((decide (a19 ≥ (0 : Int))) = false ∧ ((decide (a19 ≥ (0 : Int))) = false ∧ (false = false ∧ (false = false ∧ (false = false ∧ (false = false ∧ (false = false ∧ (false = false ∧ (false = false ∧ (false = false ∧ (false = false ∧ (false = false ∧ (false = false ∧ (false = false ∧ (false = false ∧ (U ∧ ((U) ∧ ((U) ∧ U) ∧ (.v (.one (.sc (.bool false))) : Tm) = halterref33_May.R r ∧ ([] : List Box) = [])))))))))))))))))))))))))))) ∧ ((!t10) = true → ((!t10) = true ∧ ((!t10) = true ∧ ((!t10) = true ∧ ((!t10) = true ∧ (true = true ∧ (U ∧ (U ∧ ((U) ∧ ((U) ∧ U) ∧ (.v (.one (.sc (.bool false))) : Tm) = halterref33_May.R r ∧ ([] : List Box) = [])))))))))))))))) ∧ ((!t8) = true → ((!t8) = true ∧ ((!t8) = true ∧ ((!t8) = true ∧ ((!t8) = true ∧ (true = true ∧ (true = true ∧ (true = true ∧ (true = true ∧ (true = true ∧ (true = true ∧ (U ∧ (U ∧ ((U) ∧ ((U) ∧ U) ∧ (.v (.one (.sc (.bool false))) : Tm) = halterref33_May.R r ∧ ([] : List Box) = []))))))))))))))))))))) ∧ ((decide (a5 > (31 : Int))) = true → ((decide (a5 > (31 : Int))) = true ∧ ((decide (a5 > (31 : Int))) = true ∧ ((decide (a5 > (31 : Int))) = true ∧ ((decide (a5 > (31 : Int))) = true ∧ (true = true ∧ (true = true ∧ (true = true ∧ (true = true ∧ (true = true ∧ (true = true ∧ (true = true ∧ (true = true ∧ (true = true ∧ (true = true ∧ (true = true ∧ (U ∧ (U ∧ ((U) ∧ ((U) ∧ U) ∧ (.v (.one (.sc (.bool false))) : Tm) = halterref33_May.R r ∧ ([] : List Box) = []))))))))))))))))))))))))) ∧ ((t5 != (0 : Int)) = true → ((t5 != (0 : Int)) = true ∧ ((t5 != (0 : Int)) = true ∧ ((t5 != (0 : Int)) = true ∧ ((t5 != (0 : Int)) = true ∧ (true = true ∧ (true = true ∧ (true = true ∧ (true = true ∧ (true = true ∧ (true = true ∧ (true = true ∧ (true = true ∧ (true = true ∧ (true = true ∧ (true = true ∧ (true = true ∧ (true = true ∧ (true = true ∧ (true = true ∧ (true = true ∧ (U ∧ (U ∧ ((U) ∧ ((U) ∧ U) ∧ (.v (.one (.sc (.bool false))) : Tm) = halterref33_May.R r ∧ ([] : List Box) = []))))))))))))))))))))))))))))))) ∧ ((!t3) = true → ((!t3) = true ∧ ((!t3) = true ∧ ((!t3) = true ∧ ((!t3) = true ∧ (true = true ∧ (true = true ∧ (true = true ∧ (true = true ∧ (true = true ∧ (true = true ∧ (true = true ∧ (true = true ∧ (true = true ∧ (true = true ∧ (true = true ∧ (true = true ∧ (true = true ∧ (true = true ∧ (true = true ∧ (true = true ∧ (true = true ∧ (true = true ∧ (true = true ∧ (true = true ∧ (true = true ∧ (U ∧ (U ∧ ((U) ∧ ((U) ∧ U) ∧ (.v (.one (.sc (.bool false))) : Tm) = halterref33_May.R r ∧ ([] : List Box) = [])))))))))))))))))))))))))))))))))))) ∧ ((decide (a0 > (99 : Int))) = true → ((decide (a0 > (99 : Int))) = true ∧ ((decide (a0 > (99 : Int))) = true ∧ ((decide (a0 > (99 : Int))) = true ∧ ((decide (a0 > (99 : Int))) = true ∧ (true = true ∧ (true = true ∧ (true = true ∧ (true = true ∧ (true = true ∧ (true = true ∧ (true = true ∧ (true = true ∧ (true = true ∧ (true = true ∧ (true = true ∧ (true = true ∧ (true = true ∧ (true = true ∧ (true = true ∧ (true = true ∧ (true = true ∧ (true = true ∧ (true = true ∧ (true = true ∧ (true = true ∧ (true = true ∧ (true = true ∧ (true = true ∧ (true = true ∧ (true = true ∧ (U ∧ (U ∧ ((U) ∧ ((U) ∧ U) ∧ (.v (.one (.sc (.bool false))) : Tm) = halterref33_May.R r ∧ ([] : List Box) = []))))))))))))))))))))))))))))))))))))))) ∧ ((decide (a0 < (1 : Int))) = true → ((decide (a0 < (1 : Int))) = true ∧ ((decide (a0 < (1 : Int))) = true ∧ ((decide (a0 < (1 : Int))) = true ∧ (true = true ∧ (true = true ∧ (true = true ∧ (true = true ∧ (true = true ∧ (true = true ∧ (true = true ∧ (true = true ∧ (true = true ∧ (true = true ∧ (true = true ∧ (true = true ∧ (true = true ∧ (true = true ∧ (true = true ∧ (true = true ∧ (true = true ∧ (true = true ∧ (true = true ∧ (true = true ∧ (true = true ∧ (true = true ∧ (true = true ∧ (true = true ∧ (true = true ∧ (true = true ∧ (true = true ∧ (true = true ∧ (true = true ∧ (true = true ∧ (true = true ∧ (U ∧ (U ∧ ((U) ∧ ((U) ∧ U) ∧ (.v (.one (.sc (.bool false))) : Tm) = halterref33_May.R r ∧ ([] : List Box) = [])))))))))))))))))))))))))))))))))))))))) (by kernel_rfl) ?_)
  refine ⟨T, T, ?_⟩
  refine ⟨fun b1 => ?_, fun b1 => ?_⟩
  · rw [if_neg (dF_ b1)] at h
    refine ⟨b1, ?_⟩
    refine tI ?_
    refine ⟨b1, ?_⟩
    refine tI ?_
    refine ⟨b1, ?_⟩
    refine ⟨fun b2 => ?_, fun b2 => ?_⟩
    · rw [if_neg (dF_ b2)] at h
      refine ⟨b2, ?_⟩
      refine tI ?_
      refine ⟨b2, ?_⟩
      obtain ⟨t3, ht3, h⟩ := of_bind h
      refine ⟨t3, ⟨halterref22_Is.fun_ ht3, T⟩, ?_⟩
      refine ⟨b2, ?_⟩
      refine ⟨b2, ?_⟩
      refine ⟨fun b4 => ?_, fun b4 => ?_⟩
      · rw [if_neg (not_not_intro (not_f b4))] at h
        refine ⟨b4, ?_⟩
        refine tI ?_
        refine ⟨b4, ?_⟩
        obtain ⟨t5, ht5, h⟩ := of_bind h
        refine ⟨t5, ⟨halterref16_Check.fun_ ht5, T⟩, ?_⟩
        refine ⟨b4, ?_⟩
        refine tI ?_
        refine ⟨b4, ?_⟩
        refine ⟨fun b6 => ?_, fun b6 => ?_⟩
        · rw [if_neg (not_not_intro (bne_f b6))] at h
          refine ⟨b6, ?_⟩
          refine ⟨b6, ?_⟩
          refine tI ?_
          refine ⟨b6, ?_⟩
          refine tI ?_
          refine ⟨b6, ?_⟩
          refine ⟨fun b7 => ?_, fun b7 => ?_⟩
          · rw [if_neg (dF_ b7)] at h
            refine ⟨b7, ?_⟩
            refine tI ?_
            refine ⟨b7, ?_⟩
            obtain ⟨t8, ht8, h⟩ := of_bind h
            refine ⟨t8, ⟨halterref20_May.fun_ ht8, T⟩, ?_⟩
            refine ⟨b7, ?_⟩
            refine ⟨b7, ?_⟩
            refine ⟨fun b9 => ?_, fun b9 => ?_⟩
            · rw [if_neg (not_not_intro (not_f b9))] at h
              refine ⟨b9, ?_⟩
              refine tI ?_
              refine ⟨b9, ?_⟩
              obtain ⟨t10, ht10, h⟩ := of_bind h
              refine ⟨t10, ⟨halterref25_May.fun_ ht10, T⟩, ?_⟩
              refine ⟨b9, ?_⟩
              refine ⟨b9, ?_⟩
              refine ⟨fun b11 => ?_, fun b11 => ?_⟩
              · rw [if_neg (not_not_intro (not_f b11))] at h
                refine ⟨b11, ?_⟩
                refine tI ?_
                refine ⟨b11, ?_⟩
                obtain ⟨t12, ht12, h⟩ := of_bind h
                refine ⟨t12, ⟨halterref27_May.fun_ ht12, T⟩, ?_⟩
                refine ⟨b11, ?_⟩
                refine ⟨b11, ?_⟩
                refine ⟨fun b13 => ?_, fun b13 => ?_⟩
                · rw [if_pos (ff (not_t b13))] at h
                  refine ⟨T, T, ?_⟩
                  obtain rfl := oi h
                  exact ⟨T, ⟨T, T⟩, rfl, rfl⟩
                · rw [if_neg (not_not_intro (not_f b13))] at h
                  refine ⟨T, T, ?_⟩
                  refine ⟨fun b14 => ?_, fun b14 => ?_⟩
                  · rw [if_pos (dT_ b14)] at h
                    refine ⟨b14, ?_⟩
                    refine tI ?_
                    refine ⟨b14, ?_⟩
                    refine tI ?_
                    refine ⟨b14, ?_⟩
                    refine ⟨fun b15 => ?_, fun b15 => ?_⟩
                    · rw [if_pos (dT_ b15)] at h
                      refine ⟨b15, ?_⟩
                      refine tI ?_
                      refine ⟨b15, ?_⟩
                      refine tI ?_
                      refine ⟨b15, ?_⟩
                      refine ⟨fun b16 => ?_, fun b16 => ?_⟩
                      · rw [if_pos (dT_ b16)] at h
                        refine ⟨b16, ?_⟩
                        refine tI ?_
                        refine ⟨b16, ?_⟩
                        refine tI ?_
                        refine ⟨b16, ?_⟩
                        refine ⟨fun b17 => ?_, fun b17 => ?_⟩
                        · rw [if_pos (dT_ b17)] at h
                          refine ⟨b17, ?_⟩
                          refine tI ?_
                          refine ⟨b17, ?_⟩
                          refine ⟨fun b18 => ?_, fun b18 => ?_⟩
                          · rw [if_neg (ff b18)] at h
                            refine ⟨b18, ?_⟩
                            refine tI ?_
                            refine ⟨b18, ?_⟩
                            refine ⟨b17, ?_⟩
                            refine ⟨b18, ?_⟩
                            refine ⟨b17, ?_⟩
                            refine tI ?_
                            obtain rfl := oi h
                            exact ⟨T, ⟨T, T⟩, rfl, rfl⟩
                          · rw [if_pos b18] at h
                            refine ⟨b18, ?_⟩
                            refine ⟨b18, ?_⟩
                            refine ⟨b17, ?_⟩
                            refine ⟨b18, ?_⟩
                            refine ⟨b17, ?_⟩
                            refine tI ?_
                            obtain rfl := oi h
                            exact ⟨T, ⟨T, T⟩, rfl, rfl⟩
                        · rw [if_neg (dF_ b17)] at h
                          refine ⟨b17, ?_⟩
                          refine ⟨b17, ?_⟩
                          refine ⟨b17, ?_⟩
                          refine ⟨b17, ?_⟩
                          refine tI ?_
                          obtain rfl := oi h
                          exact ⟨T, ⟨T, T⟩, rfl, rfl⟩
                      · rw [if_neg (dF_ b16)] at h
                        refine ⟨b16, ?_⟩
                        refine ⟨b16, ?_⟩
                        refine ⟨b16, ?_⟩
                        refine ⟨rfl, rfl, rfl, rfl, rfl, T, ?_⟩
                        obtain rfl := oi h
                        exact ⟨T, ⟨T, T⟩, rfl, rfl⟩
                    · rw [if_neg (dF_ b15)] at h
                      refine ⟨b15, ?_⟩
                      refine ⟨b15, ?_⟩
                      refine ⟨b15, ?_⟩
                      refine ⟨rfl, rfl, rfl, rfl, rfl, rfl, rfl, rfl, rfl, T, ?_⟩
                      obtain rfl := oi h
                      exact ⟨T, ⟨T, T⟩, rfl, rfl⟩
                  · rw [if_neg (dF_ b14)] at h
                    refine ⟨b14, ?_⟩
                    refine ⟨b14, ?_⟩
                    refine ⟨b14, ?_⟩
                    refine ⟨rfl, rfl, rfl, rfl, rfl, rfl, rfl, rfl, rfl, rfl, rfl, rfl, rfl, T, ?_⟩
                    obtain rfl := oi h
                    exact ⟨T, ⟨T, T⟩, rfl, rfl⟩
              · rw [if_pos (ff (not_t b11))] at h
                refine ⟨b11, ?_⟩
                refine ⟨b11, ?_⟩
                refine ⟨b11, ?_⟩
                refine ⟨b11, ?_⟩
                refine ⟨rfl, T, T, ?_⟩
                obtain rfl := oi h
                exact ⟨T, ⟨T, T⟩, rfl, rfl⟩
            · rw [if_pos (ff (not_t b9))] at h
              refine ⟨b9, ?_⟩
              refine ⟨b9, ?_⟩
              refine ⟨b9, ?_⟩
              refine ⟨b9, ?_⟩
              refine ⟨rfl, rfl, rfl, rfl, rfl, rfl, T, T, ?_⟩
              obtain rfl := oi h
              exact ⟨T, ⟨T, T⟩, rfl, rfl⟩
          · rw [if_pos (dT_ b7)] at h
            refine ⟨b7, ?_⟩
            refine ⟨b7, ?_⟩
            refine ⟨b7, ?_⟩
            refine ⟨b7, ?_⟩
            refine ⟨rfl, rfl, rfl, rfl, rfl, rfl, rfl, rfl, rfl, rfl, rfl, T, T, ?_⟩
            obtain rfl := oi h
            exact ⟨T, ⟨T, T⟩, rfl, rfl⟩
        · rw [if_pos (bne_t b6)] at h
          refine ⟨b6, ?_⟩
          refine ⟨b6, ?_⟩
          refine ⟨b6, ?_⟩
          refine ⟨b6, ?_⟩
          refine ⟨rfl, rfl, rfl, rfl, rfl, rfl, rfl, rfl, rfl, rfl, rfl, rfl, rfl, rfl, rfl, rfl, T, T, ?_⟩
          obtain rfl := oi h
          exact ⟨T, ⟨T, T⟩, rfl, rfl⟩
      · rw [if_pos (ff (not_t b4))] at h
        refine ⟨b4, ?_⟩
        refine ⟨b4, ?_⟩
        refine ⟨b4, ?_⟩
        refine ⟨b4, ?_⟩
        refine ⟨rfl, rfl, rfl, rfl, rfl, rfl, rfl, rfl, rfl, rfl, rfl, rfl, rfl, rfl, rfl, rfl, rfl, rfl, rfl, rfl, rfl, T, T, ?_⟩
        obtain rfl := oi h
        exact ⟨T, ⟨T, T⟩, rfl, rfl⟩
    · rw [if_pos (dT_ b2)] at h
      refine ⟨b2, ?_⟩
      refine ⟨b2, ?_⟩
      refine ⟨b2, ?_⟩
      refine ⟨b2, ?_⟩
      refine ⟨rfl, rfl, rfl, rfl, rfl, rfl, rfl, rfl, rfl, rfl, rfl, rfl, rfl, rfl, rfl, rfl, rfl, rfl, rfl, rfl, rfl, rfl, rfl, rfl, rfl, rfl, T, T, ?_⟩
      obtain rfl := oi h
      exact ⟨T, ⟨T, T⟩, rfl, rfl⟩
  · rw [if_pos (dT_ b1)] at h
    refine ⟨b1, ?_⟩
    refine ⟨b1, ?_⟩
    refine ⟨b1, ?_⟩
    refine ⟨rfl, rfl, rfl, rfl, rfl, rfl, rfl, rfl, rfl, rfl, rfl, rfl, rfl, rfl, rfl, rfl, rfl, rfl, rfl, rfl, rfl, rfl, rfl, rfl, rfl, rfl, rfl, rfl, rfl, rfl, rfl, T, T, ?_⟩
    obtain rfl := oi h
    exact ⟨T, ⟨T, T⟩, rfl, rfl⟩
/-! halter/halterref33.Child -/
def halterref33_Child.c0 : AV := .agg [.c (.sc (.int .i64 (0 : Int))), .c (.sc (.int .i64 (0 : Int))), .c (.sc (.string ByteArray.empty)), .row 16 (.int .u32) (List.replicate 16 (0 : Int)), .c (.sc (.int .u32 (0 : Int))), .c (.sc (.int .u32 (0 : Int))), .row 4 (.int .u64) (List.replicate 4 (0 : Int)), .row 8 (.int .i64) (List.replicate 8 (0 : Int)), .c (.sc (.int .u32 (0 : Int))), .c (.sc (.int .u32 (0 : Int))), .row 32 (.int .u32) (List.replicate 32 (0 : Int)), .c (.sc (.int .i64 (0 : Int))), .c (.sc (.bool false)), .c (.sc (.int .u32 (0 : Int))), .c (.sc (.int .i64 (0 : Int))), .c (.sc (.int .i64 (0 : Int))), .c (.sc (.bool false)), .c (.sc (.bool false)), .c (.sc (.bool false)), .c (.sc (.int .i64 (0 : Int))), .c (.sc (.int .i64 (0 : Int)))]
def halterref33_Child.f (a0 : Int) (a1 : Int) (a2 : ByteArray) (a3 : (List Int)) (a4 : Int) (a5 : Int) (a6 : (List Int)) (a7 : (List Int)) (a8 : Int) (a9 : Int) (a10 : (List Int)) (a11 : Int) (a12 : Bool) (a13 : Int) (a14 : Int) (a15 : Int) (a16 : Bool) (a17 : Bool) (a18 : Bool) (a19 : Int) (a20 : Int) (a21 : Int) : Option (TY2) :=
  (halterref33_May.f a0 a1 a2 a3 a4 a5 a6 a7 a8 a9 a10 a11 a12 a13 a14 a15 a16 a17 a18 a19 a20).bind fun t1 =>
  if ¬ (t1 = true) then
    some ((0 : Int), (0 : Int), ByteArray.empty, (List.replicate 16 (0 : Int)), (0 : Int), (0 : Int), (List.replicate 4 (0 : Int)), (List.replicate 8 (0 : Int)), (0 : Int), (0 : Int), (List.replicate 32 (0 : Int)), (0 : Int), false, (0 : Int), (0 : Int), (0 : Int), false, false, false, (0 : Int), (0 : Int), (22 : Int))
  else
    if a21 < (1 : Int) then
      some ((0 : Int), (0 : Int), ByteArray.empty, (List.replicate 16 (0 : Int)), (0 : Int), (0 : Int), (List.replicate 4 (0 : Int)), (List.replicate 8 (0 : Int)), (0 : Int), (0 : Int), (List.replicate 32 (0 : Int)), (0 : Int), false, (0 : Int), (0 : Int), (0 : Int), false, false, false, (0 : Int), (0 : Int), (22 : Int))
    else
      if a21 > (99 : Int) then
        some ((0 : Int), (0 : Int), ByteArray.empty, (List.replicate 16 (0 : Int)), (0 : Int), (0 : Int), (List.replicate 4 (0 : Int)), (List.replicate 8 (0 : Int)), (0 : Int), (0 : Int), (List.replicate 32 (0 : Int)), (0 : Int), false, (0 : Int), (0 : Int), (0 : Int), false, false, false, (0 : Int), (0 : Int), (22 : Int))
      else
        some (a21, a1, a2, (List.set a3 0 (0 : Int)), a4, a5, a6, a7, (0 : Int), a9, a10, (0 : Int), false, (0 : Int), (0 : Int), (0 : Int), false, false, false, (0 : Int), a20, (0 : Int))
def halterref33_Child.R (r : TY2) : Tm := .tup [.agg [.c (.sc (.int .i64 r.1)), .c (.sc (.int .i64 r.2.1)), .c (.sc (.string r.2.2.1)), .row 16 (.int .u32) r.2.2.2.1, .c (.sc (.int .u32 r.2.2.2.2.1)), .c (.sc (.int .u32 r.2.2.2.2.2.1)), .row 4 (.int .u64) r.2.2.2.2.2.2.1, .row 8 (.int .i64) r.2.2.2.2.2.2.2.1, .c (.sc (.int .u32 r.2.2.2.2.2.2.2.2.1)), .c (.sc (.int .u32 r.2.2.2.2.2.2.2.2.2.1)), .row 32 (.int .u32) r.2.2.2.2.2.2.2.2.2.2.1, .c (.sc (.int .i64 r.2.2.2.2.2.2.2.2.2.2.2.1)), .c (.sc (.bool r.2.2.2.2.2.2.2.2.2.2.2.2.1)), .c (.sc (.int .u32 r.2.2.2.2.2.2.2.2.2.2.2.2.2.1)), .c (.sc (.int .i64 r.2.2.2.2.2.2.2.2.2.2.2.2.2.2.1)), .c (.sc (.int .i64 r.2.2.2.2.2.2.2.2.2.2.2.2.2.2.2.1)), .c (.sc (.bool r.2.2.2.2.2.2.2.2.2.2.2.2.2.2.2.2.1)), .c (.sc (.bool r.2.2.2.2.2.2.2.2.2.2.2.2.2.2.2.2.2.1)), .c (.sc (.bool r.2.2.2.2.2.2.2.2.2.2.2.2.2.2.2.2.2.2.1)), .c (.sc (.int .i64 r.2.2.2.2.2.2.2.2.2.2.2.2.2.2.2.2.2.2.2.1)), .c (.sc (.int .i64 r.2.2.2.2.2.2.2.2.2.2.2.2.2.2.2.2.2.2.2.2.1))], .one (.sc (.int .i64 r.2.2.2.2.2.2.2.2.2.2.2.2.2.2.2.2.2.2.2.2.2))]
theorem halterref33_Child.fun_ {a0 : Int} {a1 : Int} {a2 : ByteArray} {a3 : (List Int)} {a4 : Int} {a5 : Int} {a6 : (List Int)} {a7 : (List Int)} {a8 : Int} {a9 : Int} {a10 : (List Int)} {a11 : Int} {a12 : Bool} {a13 : Int} {a14 : Int} {a15 : Int} {a16 : Bool} {a17 : Bool} {a18 : Bool} {a19 : Int} {a20 : Int} {a21 : Int} {r : TY2} (h : halterref33_Child.f a0 a1 a2 a3 a4 a5 a6 a7 a8 a9 a10 a11 a12 a13 a14 a15 a16 a17 a18 a19 a20 a21 = some r) : Fun cfg 7 [.agg [.c (.sc (.int .i64 a0)), .c (.sc (.int .i64 a1)), .c (.sc (.string a2)), .row 16 (.int .u32) a3, .c (.sc (.int .u32 a4)), .c (.sc (.int .u32 a5)), .row 4 (.int .u64) a6, .row 8 (.int .i64) a7, .c (.sc (.int .u32 a8)), .c (.sc (.int .u32 a9)), .row 32 (.int .u32) a10, .c (.sc (.int .i64 a11)), .c (.sc (.bool a12)), .c (.sc (.int .u32 a13)), .c (.sc (.int .i64 a14)), .c (.sc (.int .i64 a15)), .c (.sc (.bool a16)), .c (.sc (.bool a17)), .c (.sc (.bool a18)), .c (.sc (.int .i64 a19)), .c (.sc (.int .i64 a20))], .one (.sc (.int .i64 a21))] [] (halterref33_Child.R r) [] := by
  unfold halterref33_Child.f at h
  refine fun_of_run cfg_ok (f := 7) (fn := Tryz.f7) Tryz.func7 rfl (by kernel_rfl) (rs := [.cell 4 35, .tmp 5]) rfl (nt := 39) rfl (l := fin) (k := (.call true [] (Bool) halterref33_May.R (fun t1 => (.br (oT 6 (aE 2 (.adj [.drop 0] .nil))) (oF 2 (.br (oT 3 (aE 2 (.adj [.drop 0] .nil))) (oF 2 (.br (aE 2 (.adj [.drop 0] .nil)) (aE 6 (.adj [.drop 0] .nil)))))))))) (to_goal (q := (U) ∧ (∃ t1 : Bool, (Fun cfg 21 [.agg [.c (.sc (.int .i64 a0)), .c (.sc (.int .i64 a1)), .c (.sc (.string a2)), .row 16 (.int .u32) a3, .c (.sc (.int .u32 a4)), .c (.sc (.int .u32 a5)), .row 4 (.int .u64) a6, .row 8 (.int .i64) a7, .c (.sc (.int .u32 a8)), .c (.sc (.int .u32 a9)), .row 32 (.int .u32) a10, .c (.sc (.int .i64 a11)), .c (.sc (.bool a12)), .c (.sc (.int .u32 a13)), .c (.sc (.int .i64 a14)), .c (.sc (.int .i64 a15)), .c (.sc (.bool a16)), .c (.sc (.bool a17)), .c (.sc (.bool a18)), .c (.sc (.int .i64 a19)), .c (.sc (.int .i64 a20))]] [] (halterref33_May.R t1) [] ∧ U) ∧ (((!t1) = false → ((!t1) = false ∧ (U) ∧ ((!t1) = false ∧ (((decide (a21 < (1 : Int))) = false → ((decide (a21 < (1 : Int))) = false ∧ (U) ∧ ((decide (a21 < (1 : Int))) = false ∧ (((decide (a21 > (99 : Int))) = true → (U ∧ (U) ∧ (U ∧ (((U) ∧ U) ∧ ((U) ∧ U) ∧ (.tup [halterref33_Child.c0, .one (.sc (.int .i64 (22 : Int)))] : Tm) = halterref33_Child.R r ∧ ([] : List Box) = [])))) ∧ ((decide (a21 > (99 : Int))) = false → (U ∧ (U ∧ (U) ∧ (U) ∧ (U) ∧ (U) ∧ (U) ∧ (U) ∧ (U) ∧ (U ∧ (0 ≤ (0 : Int) ∧ (0 : Int) < ((16 : Nat) : Int)) ∧ (0 < 16) ∧ (U ∧ (U) ∧ (U ∧ (U) ∧ (U) ∧ (U ∧ (((U) ∧ U) ∧ ((U) ∧ U) ∧ (.tup [.agg [.c (.sc (.int .i64 a21)), .c (.sc (.int .i64 a1)), .c (.sc (.string a2)), .row 16 (.int .u32) (List.set a3 0 (0 : Int)), .c (.sc (.int .u32 a4)), .c (.sc (.int .u32 a5)), .row 4 (.int .u64) a6, .row 8 (.int .i64) a7, .c (.sc (.int .u32 (0 : Int))), .c (.sc (.int .u32 a9)), .row 32 (.int .u32) a10, .c (.sc (.int .i64 (0 : Int))), .c (.sc (.bool false)), .c (.sc (.int .u32 (0 : Int))), .c (.sc (.int .i64 (0 : Int))), .c (.sc (.int .i64 (0 : Int))), .c (.sc (.bool false)), .c (.sc (.bool false)), .c (.sc (.bool false)), .c (.sc (.int .i64 (0 : Int))), .c (.sc (.int .i64 a20))], .one (.sc (.int .i64 (0 : Int)))] : Tm) = halterref33_Child.R r ∧ ([] : List Box) = [])))))))))))) ∧ ((decide (a21 < (1 : Int))) = true → ((decide (a21 < (1 : Int))) = true ∧ ((decide (a21 < (1 : Int))) = true ∧ (true = true ∧ (U ∧ (U) ∧ (U ∧ (((U) ∧ U) ∧ ((U) ∧ U) ∧ (.tup [halterref33_Child.c0, .one (.sc (.int .i64 (22 : Int)))] : Tm) = halterref33_Child.R r ∧ ([] : List Box) = []))))))))))) ∧ ((!t1) = true → ((!t1) = true ∧ ((!t1) = true ∧ (true = true ∧ (true = true ∧ (true = true ∧ (true = true ∧ (U ∧ (U) ∧ (U ∧ (((U) ∧ U) ∧ ((U) ∧ U) ∧ (.tup [halterref33_Child.c0, .one (.sc (.int .i64 (22 : Int)))] : Tm) = halterref33_Child.R r ∧ ([] : List Box) = []))))))))))))) (by kernel_rfl) ?_)
  refine tI ?_
  obtain ⟨t1, ht1, h⟩ := of_bind h
  refine ⟨t1, ⟨halterref33_May.fun_ ht1, T⟩, ?_⟩
  refine ⟨fun b2 => ?_, fun b2 => ?_⟩
  · rw [if_neg (not_not_intro (not_f b2))] at h
    refine ⟨b2, ?_⟩
    refine tI ?_
    refine ⟨b2, ?_⟩
    refine ⟨fun b3 => ?_, fun b3 => ?_⟩
    · rw [if_neg (dF_ b3)] at h
      refine ⟨b3, ?_⟩
      refine tI ?_
      refine ⟨b3, ?_⟩
      refine ⟨fun b4 => ?_, fun b4 => ?_⟩
      · rw [if_pos (dT_ b4)] at h
        refine ⟨T, T, T, ?_⟩
        obtain rfl := oi h
        exact ⟨⟨T, T⟩, ⟨T, T⟩, rfl, rfl⟩
      · rw [if_neg (dF_ b4)] at h
        refine ⟨T, T, T, T, T, T, T, T, T, T, ?_⟩
        refine ⟨(by decide), ?_⟩
        refine ⟨(by decide), ?_⟩
        refine ⟨T, T, T, T, T, T, ?_⟩
        obtain rfl := oi h
        exact ⟨⟨T, T⟩, ⟨T, T⟩, rfl, rfl⟩
    · rw [if_pos (dT_ b3)] at h
      refine ⟨b3, ?_⟩
      refine ⟨b3, ?_⟩
      refine ⟨rfl, T, T, T, ?_⟩
      obtain rfl := oi h
      exact ⟨⟨T, T⟩, ⟨T, T⟩, rfl, rfl⟩
  · rw [if_pos (ff (not_t b2))] at h
    refine ⟨b2, ?_⟩
    refine ⟨b2, ?_⟩
    refine ⟨rfl, rfl, rfl, rfl, T, T, T, ?_⟩
    obtain rfl := oi h
    exact ⟨⟨T, T⟩, ⟨T, T⟩, rfl, rfl⟩
/-! halter/sig.Exec -/
def sig_Exec.l0 (a0 : Int) (a1 : Int) (a2 : (List Int)) : Nat → (List Int) → Int → Option (List Int)
  | 0, _, _ => none
  | n + 1, x7, x8 =>
    if x8 < (32 : Int) then
      if 0 ≤ x8 ∧ x8 < ((32 : Nat) : Int) then
        if (List.getD a2 (Int.toNat x8) (0 : Int)) > (1 : Int) then
          if 0 ≤ x8 ∧ x8 < ((32 : Nat) : Int) then
            if (Int.toNat x8) < 32 then
              sig_Exec.l0 a0 a1 a2 n (List.set x7 (Int.toNat x8) (0 : Int)) (IntKind.wrap .i64 (x8 + (1 : Int)))
            else none
          else none
        else
          sig_Exec.l0 a0 a1 a2 n x7 (IntKind.wrap .i64 (x8 + (1 : Int)))
      else none
    else
      some x7
def sig_Exec.l0_S (a0 : Int) (a1 : Int) (a2 : (List Int)) (x7 : List Int) (x8 : Int) : St := ⟨[A, .v (.one (.ptr 0 ⟨0, 0, 0, 0⟩)), .v (.one (.ptr 1 ⟨0, 0, 0, 0⟩)), A, A, A, .v (.agg [.row 32 (.int .u32) a2]), vi .i64 x8, A, A, A, A, A, A, A, A, A, A], [.ex false [.c (.sc (.int .u32 a0)), .c (.sc (.int .u32 a1)), .row 32 (.int .u32) x7] 43, .ex false [.c (.sc (.int .u32 (0 : Int))), .c (.sc (.int .u32 (0 : Int))), .row 32 (.int .u32) (List.replicate 32 (0 : Int))] 43], 0⟩
def sig_Exec.l0_Q (a0 : Int) (a1 : Int) (a2 : (List Int)) (t : (List Int)) : Exit → St → Prop := fun e s => e = (.exit 0) ∧ s = ⟨[A, .v (.one (.ptr 0 ⟨0, 0, 0, 0⟩)), .v (.one (.ptr 1 ⟨0, 0, 0, 0⟩)), A, A, A, A, A, A, A, A, A, A, A, A, A, A, A], [.ex false [.c (.sc (.int .u32 a0)), .c (.sc (.int .u32 a1)), .row 32 (.int .u32) t] 43, .ex false [.c (.sc (.int .u32 (0 : Int))), .c (.sc (.int .u32 (0 : Int))), .row 32 (.int .u32) (List.replicate 32 (0 : Int))] 43], 0⟩
theorem sig_Exec.l0_ok (a0 : Int) (a1 : Int) (a2 : (List Int)) : ∀ (n : Nat) (x7 : List Int) (x8 : Int) (r : (List Int)), sig_Exec.l0 a0 a1 a2 n x7 x8 = some r → TripN cfg (cpath (Tryz.f27.body.getD .skip) [1, 0, 1, 0, 0]) n (sig_Exec.l0_S a0 a1 a2 x7 x8) (sig_Exec.l0_Q a0 a1 a2 r) := by
  intro n
  induction n with
  | zero => intro x7 x8 r h; cases h
  | succ n ih =>
    intro x7 x8 r h
    rw [sig_Exec.l0] at h
    refine TripN.of_run cfg_ok (k := (.br (.br (aE 2 (.adj [.keep [1, 2, 6, 7], .drop 2] .nil)) (aE 2 (.adj [.keep [1, 2, 6, 7], .drop 2] .nil))) (.adj [.keep [1, 2], .drop 2] .nil))) (to_goal (q := (U) ∧ (((decide (x8 < (32 : Int))) = true → (0 ≤ x8 ∧ x8 < ((32 : Nat) : Int)) ∧ (U) ∧ (((decide ((List.getD a2 (Int.toNat x8) (0 : Int)) > (1 : Int))) = true → (U ∧ (0 ≤ x8 ∧ x8 < ((32 : Nat) : Int)) ∧ ((Int.toNat x8) < 32) ∧ (U ∧ (U) ∧ (((U) ∧ (U) ∧ U) ∧ TripN cfg (cpath (Tryz.f27.body.getD .skip) [1, 0, 1, 0, 0]) n (sig_Exec.l0_S a0 a1 a2 (List.set x7 (Int.toNat x8) (0 : Int)) (IntKind.wrap .i64 (x8 + (1 : Int)))) (sig_Exec.l0_Q a0 a1 a2 r))))) ∧ ((decide ((List.getD a2 (Int.toNat x8) (0 : Int)) > (1 : Int))) = false → (U ∧ (U ∧ (U) ∧ (((U) ∧ (U) ∧ U) ∧ TripN cfg (cpath (Tryz.f27.body.getD .skip) [1, 0, 1, 0, 0]) n (sig_Exec.l0_S a0 a1 a2 x7 (IntKind.wrap .i64 (x8 + (1 : Int)))) (sig_Exec.l0_Q a0 a1 a2 r))))))) ∧ ((decide (x8 < (32 : Int))) = false → (((U) ∧ (U) ∧ U) ∧ sig_Exec.l0_Q a0 a1 a2 r (.exit 0) ⟨[A, .v (.one (.ptr 0 ⟨0, 0, 0, 0⟩)), .v (.one (.ptr 1 ⟨0, 0, 0, 0⟩)), A, A, A, A, A, A, A, A, A, A, A, A, A, A, A], [.ex false [.c (.sc (.int .u32 a0)), .c (.sc (.int .u32 a1)), .row 32 (.int .u32) x7] 43, .ex false [.c (.sc (.int .u32 (0 : Int))), .c (.sc (.int .u32 (0 : Int))), .row 32 (.int .u32) (List.replicate 32 (0 : Int))] 43], 0⟩)))) (by kernel_rfl) ?_)
    refine tI ?_
    refine ⟨fun b16 => ?_, fun b16 => ?_⟩
    · rw [if_pos (dT_ b16)] at h
      obtain ⟨g20, h⟩ := of_guard h
      refine ⟨g20, ?_⟩
      refine tI ?_
      refine ⟨fun b17 => ?_, fun b17 => ?_⟩
      · rw [if_pos (dT_ b17)] at h
        refine tI ?_
        obtain ⟨g19, h⟩ := of_guard h
        refine ⟨g19, ?_⟩
        obtain ⟨g18, h⟩ := of_guard h
        refine ⟨g18, ?_⟩
        refine ⟨T, T, ?_⟩
        exact ⟨⟨T, T, T⟩, ih (List.set x7 (Int.toNat x8) (0 : Int)) (IntKind.wrap .i64 (x8 + (1 : Int))) r h⟩
      · rw [if_neg (dF_ b17)] at h
        refine ⟨T, T, T, ?_⟩
        exact ⟨⟨T, T, T⟩, ih x7 (IntKind.wrap .i64 (x8 + (1 : Int))) r h⟩
    · rw [if_neg (dF_ b16)] at h
      obtain rfl := oi h
      exact ⟨⟨T, T, T⟩, rfl, rfl⟩
def sig_Exec.f (a0 : Int) (a1 : Int) (a2 : (List Int)) : Option (Int × Int × (List Int)) :=
  (sig_Exec.l0 a0 a1 a2 FUEL a2 (0 : Int)).bind fun t15 =>
  some (a0, a1, t15)
def sig_Exec.R (r : Int × Int × (List Int)) : Tm := .v (.agg [.c (.sc (.int .u32 r.1)), .c (.sc (.int .u32 r.2.1)), .row 32 (.int .u32) r.2.2])
theorem sig_Exec.fun_ {a0 : Int} {a1 : Int} {a2 : (List Int)} {r : Int × Int × (List Int)} (h : sig_Exec.f a0 a1 a2 = some r) : Fun cfg 27 [.agg [.c (.sc (.int .u32 a0)), .c (.sc (.int .u32 a1)), .row 32 (.int .u32) a2]] [] (sig_Exec.R r) [] := by
  unfold sig_Exec.f at h
  refine fun_of_run cfg_ok (f := 27) (fn := Tryz.f27) Tryz.func27 rfl (by kernel_rfl) (rs := [.cell 2 43]) rfl (nt := 18) rfl (l := fin) (k := (aE 3 (.adj [.keep [1, 2, 6, 7]] (.sub ((List Int)) (fun _ => (.exit 0)) (fun t15 => ⟨[A, .v (.one (.ptr 0 ⟨0, 0, 0, 0⟩)), .v (.one (.ptr 1 ⟨0, 0, 0, 0⟩)), A, A, A, A, A, A, A, A, A, A, A, A, A, A, A], [.ex false [.c (.sc (.int .u32 a0)), .c (.sc (.int .u32 a1)), .row 32 (.int .u32) t15] 43, .ex false [.c (.sc (.int .u32 (0 : Int))), .c (.sc (.int .u32 (0 : Int))), .row 32 (.int .u32) (List.replicate 32 (0 : Int))] 43], 0⟩) (fun t15 => (aE 2 (.adj [.drop 0] .nil))))))) (to_goal (q := (U ∧ (U ∧ (U) ∧ (U ∧ (((U) ∧ U) ∧ (∃ t15 : (List Int), Trip cfg (.loop (cpath (Tryz.f27.body.getD .skip) [1, 0, 1, 0, 0])) ⟨[A, .v (.one (.ptr 0 ⟨0, 0, 0, 0⟩)), .v (.one (.ptr 1 ⟨0, 0, 0, 0⟩)), A, A, A, .v (.agg [.row 32 (.int .u32) a2]), vi .i64 (0 : Int), A, A, A, A, A, A, A, A, A, A], [.ex false [.c (.sc (.int .u32 a0)), .c (.sc (.int .u32 a1)), .row 32 (.int .u32) a2] 43, .ex false [.c (.sc (.int .u32 (0 : Int))), .c (.sc (.int .u32 (0 : Int))), .row 32 (.int .u32) (List.replicate 32 (0 : Int))] 43], 0⟩ (fun e s => e = (.exit 0) ∧ s = ⟨[A, .v (.one (.ptr 0 ⟨0, 0, 0, 0⟩)), .v (.one (.ptr 1 ⟨0, 0, 0, 0⟩)), A, A, A, A, A, A, A, A, A, A, A, A, A, A, A], [.ex false [.c (.sc (.int .u32 a0)), .c (.sc (.int .u32 a1)), .row 32 (.int .u32) t15] 43, .ex false [.c (.sc (.int .u32 (0 : Int))), .c (.sc (.int .u32 (0 : Int))), .row 32 (.int .u32) (List.replicate 32 (0 : Int))] 43], 0⟩) ∧ (U ∧ (U) ∧ (U) ∧ (U ∧ (((U) ∧ U) ∧ ((U) ∧ U) ∧ (.v (.agg [.c (.sc (.int .u32 a0)), .c (.sc (.int .u32 a1)), .row 32 (.int .u32) t15]) : Tm) = sig_Exec.R r ∧ ([] : List Box) = []))))))))) (by kernel_rfl) ?_)
  refine ⟨T, T, T, T, ?_⟩
  obtain ⟨t15, ht15, h⟩ := of_bind h
  refine ⟨⟨T, T⟩, t15, Trip.loop FUEL (sig_Exec.l0_ok a0 a1 a2 FUEL a2 (0 : Int) t15 ht15), ?_⟩
  refine ⟨T, T, T, T, ?_⟩
  obtain rfl := oi h
  exact ⟨⟨T, T⟩, ⟨T, T⟩, rfl, rfl⟩
/-! halter/proc.Exec -/
def proc_Exec.c0 : AV := .agg [.c (.sc (.int .i64 (0 : Int))), .c (.sc (.int .i64 (0 : Int))), .c (.sc (.string ByteArray.empty)), .row 16 (.int .u32) (List.replicate 16 (0 : Int)), .c (.sc (.int .u32 (0 : Int))), .c (.sc (.int .u32 (0 : Int))), .row 4 (.int .u64) (List.replicate 4 (0 : Int)), .row 8 (.int .i64) (List.replicate 8 (0 : Int)), .c (.sc (.int .u32 (0 : Int))), .c (.sc (.int .u32 (0 : Int))), .row 32 (.int .u32) (List.replicate 32 (0 : Int)), .c (.sc (.int .i64 (0 : Int))), .c (.sc (.bool false)), .c (.sc (.int .u32 (0 : Int))), .c (.sc (.int .i64 (0 : Int))), .c (.sc (.int .i64 (0 : Int))), .c (.sc (.bool false)), .c (.sc (.bool false)), .c (.sc (.bool false)), .c (.sc (.int .i64 (0 : Int))), .c (.sc (.int .i64 (0 : Int)))]
def proc_Exec.c1 (a0 : Int) (a1 : Int) (a21 : ByteArray) (t3 : (List Int) × Int × Int × (List Int)) (a7 : (List Int)) (t4 : Int × Int × (List Int)) (a11 : Int) (a12 : Bool) (a13 : Int) (a14 : Int) (a15 : Int) (a16 : Bool) (a17 : Bool) (a18 : Bool) (a23 : Int) : AV := .agg [.c (.sc (.int .i64 a0)), .c (.sc (.int .i64 a1)), .c (.sc (.string a21)), .row 16 (.int .u32) t3.1, .c (.sc (.int .u32 t3.2.1)), .c (.sc (.int .u32 (p2 t3))), .row 4 (.int .u64) (z3 t3), .row 8 (.int .i64) a7, .c (.sc (.int .u32 t4.1)), .c (.sc (.int .u32 t4.2.1)), .row 32 (.int .u32) (z2 t4), .c (.sc (.int .i64 a11)), .c (.sc (.bool a12)), .c (.sc (.int .u32 a13)), .c (.sc (.int .i64 a14)), .c (.sc (.int .i64 a15)), .c (.sc (.bool a16)), .c (.sc (.bool a17)), .c (.sc (.bool a18)), .c (.sc (.int .i64 (0 : Int))), .c (.sc (.int .i64 a23))]
def proc_Exec.f (a0 : Int) (a1 : Int) (a2 : ByteArray) (a3 : (List Int)) (a4 : Int) (a5 : Int) (a6 : (List Int)) (a7 : (List Int)) (a8 : Int) (a9 : Int) (a10 : (List Int)) (a11 : Int) (a12 : Bool) (a13 : Int) (a14 : Int) (a15 : Int) (a16 : Bool) (a17 : Bool) (a18 : Bool) (a19 : Int) (a20 : Int) (a21 : ByteArray) (a22 : Int) (a23 : Int) : Option (TY1) :=
  (proc_Check.f a0 a1 a2 a3 a4 a5 a6 a7 a8 a9 a10 a11 a12 a13 a14 a15 a16 a17 a18 a19 a20).bind fun t1 =>
  if ¬ (t1 = none) then
    some ((0 : Int), (0 : Int), ByteArray.empty, (List.replicate 16 (0 : Int)), (0 : Int), (0 : Int), (List.replicate 4 (0 : Int)), (List.replicate 8 (0 : Int)), (0 : Int), (0 : Int), (List.replicate 32 (0 : Int)), (0 : Int), false, (0 : Int), (0 : Int), (0 : Int), false, false, false, (0 : Int), (0 : Int), (some (22 : Int)))
  else
    (proc_begun.f a22).bind fun t3 =>
    (sig_Exec.f a8 a9 a10).bind fun t4 =>
    (proc_Check.f a0 a1 a21 t3.1 t3.2.1 t3.2.2.1 t3.2.2.2 a7 t4.1 t4.2.1 t4.2.2 a11 a12 a13 a14 a15 a16 a17 a18 (0 : Int) a23).bind fun t5 =>
    if ¬ (t5 = none) then
      some ((0 : Int), (0 : Int), ByteArray.empty, (List.replicate 16 (0 : Int)), (0 : Int), (0 : Int), (List.replicate 4 (0 : Int)), (List.replicate 8 (0 : Int)), (0 : Int), (0 : Int), (List.replicate 32 (0 : Int)), (0 : Int), false, (0 : Int), (0 : Int), (0 : Int), false, false, false, (0 : Int), (0 : Int), (some (22 : Int)))
    else
      some (a0, a1, a21, t3.1, t3.2.1, t3.2.2.1, t3.2.2.2, a7, t4.1, t4.2.1, t4.2.2, a11, a12, a13, a14, a15, a16, a17, a18, (0 : Int), a23, none)
def proc_Exec.R (r : TY1) : Tm := .tup [.agg [.c (.sc (.int .i64 r.1)), .c (.sc (.int .i64 r.2.1)), .c (.sc (.string r.2.2.1)), .row 16 (.int .u32) r.2.2.2.1, .c (.sc (.int .u32 r.2.2.2.2.1)), .c (.sc (.int .u32 r.2.2.2.2.2.1)), .row 4 (.int .u64) r.2.2.2.2.2.2.1, .row 8 (.int .i64) r.2.2.2.2.2.2.2.1, .c (.sc (.int .u32 r.2.2.2.2.2.2.2.2.1)), .c (.sc (.int .u32 r.2.2.2.2.2.2.2.2.2.1)), .row 32 (.int .u32) r.2.2.2.2.2.2.2.2.2.2.1, .c (.sc (.int .i64 r.2.2.2.2.2.2.2.2.2.2.2.1)), .c (.sc (.bool r.2.2.2.2.2.2.2.2.2.2.2.2.1)), .c (.sc (.int .u32 r.2.2.2.2.2.2.2.2.2.2.2.2.2.1)), .c (.sc (.int .i64 r.2.2.2.2.2.2.2.2.2.2.2.2.2.2.1)), .c (.sc (.int .i64 r.2.2.2.2.2.2.2.2.2.2.2.2.2.2.2.1)), .c (.sc (.bool r.2.2.2.2.2.2.2.2.2.2.2.2.2.2.2.2.1)), .c (.sc (.bool r.2.2.2.2.2.2.2.2.2.2.2.2.2.2.2.2.2.1)), .c (.sc (.bool r.2.2.2.2.2.2.2.2.2.2.2.2.2.2.2.2.2.2.1)), .c (.sc (.int .i64 r.2.2.2.2.2.2.2.2.2.2.2.2.2.2.2.2.2.2.2.1)), .c (.sc (.int .i64 r.2.2.2.2.2.2.2.2.2.2.2.2.2.2.2.2.2.2.2.2.1))], .one (.err r.2.2.2.2.2.2.2.2.2.2.2.2.2.2.2.2.2.2.2.2.2)]
theorem proc_Exec.fun_ {a0 : Int} {a1 : Int} {a2 : ByteArray} {a3 : (List Int)} {a4 : Int} {a5 : Int} {a6 : (List Int)} {a7 : (List Int)} {a8 : Int} {a9 : Int} {a10 : (List Int)} {a11 : Int} {a12 : Bool} {a13 : Int} {a14 : Int} {a15 : Int} {a16 : Bool} {a17 : Bool} {a18 : Bool} {a19 : Int} {a20 : Int} {a21 : ByteArray} {a22 : Int} {a23 : Int} {r : TY1} (h : proc_Exec.f a0 a1 a2 a3 a4 a5 a6 a7 a8 a9 a10 a11 a12 a13 a14 a15 a16 a17 a18 a19 a20 a21 a22 a23 = some r) : Fun cfg 8 [.agg [.c (.sc (.int .i64 a0)), .c (.sc (.int .i64 a1)), .c (.sc (.string a2)), .row 16 (.int .u32) a3, .c (.sc (.int .u32 a4)), .c (.sc (.int .u32 a5)), .row 4 (.int .u64) a6, .row 8 (.int .i64) a7, .c (.sc (.int .u32 a8)), .c (.sc (.int .u32 a9)), .row 32 (.int .u32) a10, .c (.sc (.int .i64 a11)), .c (.sc (.bool a12)), .c (.sc (.int .u32 a13)), .c (.sc (.int .i64 a14)), .c (.sc (.int .i64 a15)), .c (.sc (.bool a16)), .c (.sc (.bool a17)), .c (.sc (.bool a18)), .c (.sc (.int .i64 a19)), .c (.sc (.int .i64 a20))], .one (.sc (.string a21)), .one (.sc (.int .u32 a22)), .one (.sc (.int .i64 a23))] [] (proc_Exec.R r) [] := by
  unfold proc_Exec.f at h
  refine fun_of_run cfg_ok (f := 8) (fn := Tryz.f8) Tryz.func8 rfl (by kernel_rfl) (rs := [.cell 8 46, .tmp 9]) rfl (nt := 33) rfl (l := fin) (k := (.call true [] ((Option Int)) proc_Check.R (fun t1 => (.br (aE 2 (.adj [.drop 0] .nil)) (.ex ((List Int) × Int × Int × (List Int)) (fun t3 => (.ex (Int × Int × (List Int)) (fun t4 => (.dr [(0, dN), (1, dN), (2, ⟨none, .callP true [] (proc_begun.R t3), false⟩), (3, dN), (6, dN), (4, dN), (5, ⟨none, .callP true [] (sig_Exec.R t4), false⟩), (7, dN), (8, dN), (9, dN), (10, dN), (11, dN), (12, dN), (13, dN), (14, dN), (15, dN), (16, dN)] (.call true [] ((Option Int)) proc_Check.R (fun t5 => (.br (aE 2 (.adj [.drop 0] .nil)) (aE 3 (.adj [.drop 0] .nil)))))))))))))) (to_goal (q := (U) ∧ (∃ t1 : (Option Int), (Fun cfg 20 [.agg [.c (.sc (.int .i64 a0)), .c (.sc (.int .i64 a1)), .c (.sc (.string a2)), .row 16 (.int .u32) a3, .c (.sc (.int .u32 a4)), .c (.sc (.int .u32 a5)), .row 4 (.int .u64) a6, .row 8 (.int .i64) a7, .c (.sc (.int .u32 a8)), .c (.sc (.int .u32 a9)), .row 32 (.int .u32) a10, .c (.sc (.int .i64 a11)), .c (.sc (.bool a12)), .c (.sc (.int .u32 a13)), .c (.sc (.int .i64 a14)), .c (.sc (.int .i64 a15)), .c (.sc (.bool a16)), .c (.sc (.bool a17)), .c (.sc (.bool a18)), .c (.sc (.int .i64 a19)), .c (.sc (.int .i64 a20))]] [] (proc_Check.R t1) [] ∧ U) ∧ (U) ∧ (((!(Option.isNone t1)) = true → (U ∧ (U) ∧ (U ∧ (((U) ∧ U) ∧ ((U) ∧ U) ∧ (.tup [proc_Exec.c0, .one (.err (some (22 : Int)))] : Tm) = proc_Exec.R r ∧ ([] : List Box) = [])))) ∧ ((!(Option.isNone t1)) = false → (∃ t3 : (List Int) × Int × Int × (List Int), (∃ t4 : Int × Int × (List Int), (Fun cfg 26 [.one (.sc (.int .u32 a22))] [] (proc_begun.R t3) [] ∧ U) ∧ (U) ∧ (Fun cfg 27 [.agg [.c (.sc (.int .u32 a8)), .c (.sc (.int .u32 a9)), .row 32 (.int .u32) a10]] [] (sig_Exec.R t4) [] ∧ U) ∧ (U) ∧ (U) ∧ (U) ∧ (U) ∧ (U) ∧ (U) ∧ (∃ t5 : (Option Int), (Fun cfg 20 [(proc_Exec.c1 a0 a1 a21 t3 a7 t4 a11 a12 a13 a14 a15 a16 a17 a18 a23)] [] (proc_Check.R t5) [] ∧ U) ∧ (U) ∧ (((!(Option.isNone t5)) = true → (U ∧ (U) ∧ (U ∧ (((U) ∧ U) ∧ ((U) ∧ U) ∧ (.tup [proc_Exec.c0, .one (.err (some (22 : Int)))] : Tm) = proc_Exec.R r ∧ ([] : List Box) = [])))) ∧ ((!(Option.isNone t5)) = false → (U ∧ (U ∧ (U) ∧ (U) ∧ (U ∧ (((U) ∧ U) ∧ ((U) ∧ U) ∧ (.tup [(proc_Exec.c1 a0 a1 a21 t3 a7 t4 a11 a12 a13 a14 a15 a16 a17 a18 a23), .one (.err none)] : Tm) = proc_Exec.R r ∧ ([] : List Box) = []))))))))))))) (by kernel_rfl) ?_)
  refine tI ?_
  obtain ⟨t1, ht1, h⟩ := of_bind h
  refine ⟨t1, ⟨proc_Check.fun_ ht1, T⟩, ?_⟩
  refine tI ?_
  refine ⟨fun b2 => ?_, fun b2 => ?_⟩
  · rw [if_pos (none_f (not_t b2))] at h
    refine ⟨T, T, T, ?_⟩
    obtain rfl := oi h
    exact ⟨⟨T, T⟩, ⟨T, T⟩, rfl, rfl⟩
  · rw [if_neg (not_not_intro (none_t (not_f b2)))] at h
    obtain ⟨t3, ht3, h⟩ := of_bind h
    refine ⟨t3, ?_⟩
    obtain ⟨t4, ht4, h⟩ := of_bind h
    refine ⟨t4, ?_⟩
    refine ⟨⟨proc_begun.fun_ ht3, T⟩, T, ⟨sig_Exec.fun_ ht4, T⟩, T, T, T, T, T, ?_⟩
    refine tI ?_
    obtain ⟨t5, ht5, h⟩ := of_bind h
    refine ⟨t5, ⟨proc_Check.fun_ ht5, T⟩, ?_⟩
    refine tI ?_
    refine ⟨fun b6 => ?_, fun b6 => ?_⟩
    · rw [if_pos (none_f (not_t b6))] at h
      refine ⟨T, T, T, ?_⟩
      obtain rfl := oi h
      exact ⟨⟨T, T⟩, ⟨T, T⟩, rfl, rfl⟩
    · rw [if_neg (not_not_intro (none_t (not_f b6)))] at h
      refine ⟨T, T, T, T, T, ?_⟩
      obtain rfl := oi h
      exact ⟨⟨T, T⟩, ⟨T, T⟩, rfl, rfl⟩
/-! halter/halterref33.Begun -/
def halterref33_Begun.f (a0 : Int) : Option ((List Int) × Int × Int × (List Int)) :=
  some ((List.set (List.replicate 16 (0 : Int)) 13 (1048576 : Int)), a0, (0 : Int), (List.replicate 4 (0 : Int)))
def halterref33_Begun.R (r : (List Int) × Int × Int × (List Int)) : Tm := .v (.agg [.row 16 (.int .u32) r.1, .c (.sc (.int .u32 r.2.1)), .c (.sc (.int .u32 r.2.2.1)), .row 4 (.int .u64) r.2.2.2])
theorem halterref33_Begun.fun_ {a0 : Int} {r : (List Int) × Int × Int × (List Int)} (h : halterref33_Begun.f a0 = some r) : Fun cfg 29 [.one (.sc (.int .u32 a0))] [] (halterref33_Begun.R r) [] := by
  unfold halterref33_Begun.f at h
  refine fun_of_run cfg_ok (f := 29) (fn := Tryz.f29) Tryz.func29 rfl (by kernel_rfl) (rs := [.cell 2 27]) rfl (nt := 9) rfl (l := fin) (k := (aE 5 (.adj [.drop 0] .nil))) (to_goal (q := (U ∧ (U ∧ (U) ∧ (U ∧ (0 ≤ (13 : Int) ∧ (13 : Int) < ((16 : Nat) : Int)) ∧ (13 < 16) ∧ (U ∧ (U) ∧ (U) ∧ (U ∧ (((U) ∧ U) ∧ ((U) ∧ U) ∧ (.v (.agg [.row 16 (.int .u32) (List.set (List.replicate 16 (0 : Int)) 13 (1048576 : Int)), .c (.sc (.int .u32 a0)), .c (.sc (.int .u32 (0 : Int))), .row 4 (.int .u64) (List.replicate 4 (0 : Int))]) : Tm) = halterref33_Begun.R r ∧ ([] : List Box) = []))))))) (by kernel_rfl) ?_)
  refine ⟨T, T, T, T, ?_⟩
  refine ⟨(by decide), ?_⟩
  refine ⟨(by decide), ?_⟩
  refine ⟨T, T, T, T, ?_⟩
  obtain rfl := oi h
  exact ⟨⟨T, T⟩, ⟨T, T⟩, rfl, rfl⟩
/-! halter/halterref25.Exec -/
def halterref25_Exec.l0 (a0 : Int) (a1 : Int) : Nat → (List Int) → Int → Option (List Int)
  | 0, _, _ => none
  | n + 1, x8, x9 =>
    if x9 < (32 : Int) then
      if 0 ≤ x9 ∧ x9 < ((32 : Nat) : Int) then
        if (Int.toNat x9) < 32 then
          if (List.getD x8 (Int.toNat x9) (0 : Int)) > (1 : Int) then
            if 0 ≤ x9 ∧ x9 < ((32 : Nat) : Int) then
              if (Int.toNat x9) < 32 then
                halterref25_Exec.l0 a0 a1 n (List.set x8 (Int.toNat x9) (0 : Int)) (IntKind.wrap .i64 (x9 + (1 : Int)))
              else none
            else none
          else
            halterref25_Exec.l0 a0 a1 n x8 (IntKind.wrap .i64 (x9 + (1 : Int)))
        else none
      else none
    else
      some x8
def halterref25_Exec.l0_S (a0 : Int) (a1 : Int) (x8 : List Int) (x9 : Int) : St := ⟨[A, .v (.one (.ptr 0 ⟨0, 0, 0, 0⟩)), .v (.one (.ptr 1 ⟨0, 0, 0, 0⟩)), vi .i64 x9, A, A, A, A, A, A, A, A, A, A, A, A, A], [.ex false [.c (.sc (.int .u32 a0)), .c (.sc (.int .u32 a1)), .row 32 (.int .u32) x8] 31, .ex false [.c (.sc (.int .u32 (0 : Int))), .c (.sc (.int .u32 (0 : Int))), .row 32 (.int .u32) (List.replicate 32 (0 : Int))] 31], 0⟩
def halterref25_Exec.l0_Q (a0 : Int) (a1 : Int) (t : (List Int)) : Exit → St → Prop := fun e s => e = (.exit 0) ∧ s = ⟨[A, .v (.one (.ptr 0 ⟨0, 0, 0, 0⟩)), .v (.one (.ptr 1 ⟨0, 0, 0, 0⟩)), A, A, A, A, A, A, A, A, A, A, A, A, A, A], [.ex false [.c (.sc (.int .u32 a0)), .c (.sc (.int .u32 a1)), .row 32 (.int .u32) t] 31, .ex false [.c (.sc (.int .u32 (0 : Int))), .c (.sc (.int .u32 (0 : Int))), .row 32 (.int .u32) (List.replicate 32 (0 : Int))] 31], 0⟩
theorem halterref25_Exec.l0_ok (a0 : Int) (a1 : Int) : ∀ (n : Nat) (x8 : List Int) (x9 : Int) (r : (List Int)), halterref25_Exec.l0 a0 a1 n x8 x9 = some r → TripN cfg (cpath (Tryz.f30.body.getD .skip) [1, 0, 1, 0, 0]) n (halterref25_Exec.l0_S a0 a1 x8 x9) (halterref25_Exec.l0_Q a0 a1 r) := by
  intro n
  induction n with
  | zero => intro x8 x9 r h; cases h
  | succ n ih =>
    intro x8 x9 r h
    rw [halterref25_Exec.l0] at h
    refine TripN.of_run cfg_ok (k := (.br (.br (aE 2 (.adj [.keep [1, 2, 3], .drop 2] .nil)) (aE 2 (.adj [.keep [1, 2, 3], .drop 2] .nil))) (.adj [.keep [1, 2], .drop 2] .nil))) (to_goal (q := (U) ∧ (((decide (x9 < (32 : Int))) = true → (0 ≤ x9 ∧ x9 < ((32 : Nat) : Int)) ∧ ((Int.toNat x9) < 32) ∧ (U) ∧ (((decide ((List.getD x8 (Int.toNat x9) (0 : Int)) > (1 : Int))) = true → (U ∧ (0 ≤ x9 ∧ x9 < ((32 : Nat) : Int)) ∧ ((Int.toNat x9) < 32) ∧ (U ∧ (U) ∧ (((U) ∧ (U) ∧ U) ∧ TripN cfg (cpath (Tryz.f30.body.getD .skip) [1, 0, 1, 0, 0]) n (halterref25_Exec.l0_S a0 a1 (List.set x8 (Int.toNat x9) (0 : Int)) (IntKind.wrap .i64 (x9 + (1 : Int)))) (halterref25_Exec.l0_Q a0 a1 r))))) ∧ ((decide ((List.getD x8 (Int.toNat x9) (0 : Int)) > (1 : Int))) = false → (U ∧ (U ∧ (U) ∧ (((U) ∧ (U) ∧ U) ∧ TripN cfg (cpath (Tryz.f30.body.getD .skip) [1, 0, 1, 0, 0]) n (halterref25_Exec.l0_S a0 a1 x8 (IntKind.wrap .i64 (x9 + (1 : Int)))) (halterref25_Exec.l0_Q a0 a1 r))))))) ∧ ((decide (x9 < (32 : Int))) = false → (((U) ∧ (U) ∧ U) ∧ halterref25_Exec.l0_Q a0 a1 r (.exit 0) ⟨[A, .v (.one (.ptr 0 ⟨0, 0, 0, 0⟩)), .v (.one (.ptr 1 ⟨0, 0, 0, 0⟩)), A, A, A, A, A, A, A, A, A, A, A, A, A, A], [.ex false [.c (.sc (.int .u32 a0)), .c (.sc (.int .u32 a1)), .row 32 (.int .u32) x8] 31, .ex false [.c (.sc (.int .u32 (0 : Int))), .c (.sc (.int .u32 (0 : Int))), .row 32 (.int .u32) (List.replicate 32 (0 : Int))] 31], 0⟩)))) (by kernel_rfl) ?_)
    refine tI ?_
    refine ⟨fun b18 => ?_, fun b18 => ?_⟩
    · rw [if_pos (dT_ b18)] at h
      obtain ⟨g23, h⟩ := of_guard h
      refine ⟨g23, ?_⟩
      obtain ⟨g22, h⟩ := of_guard h
      refine ⟨g22, ?_⟩
      refine tI ?_
      refine ⟨fun b19 => ?_, fun b19 => ?_⟩
      · rw [if_pos (dT_ b19)] at h
        refine tI ?_
        obtain ⟨g21, h⟩ := of_guard h
        refine ⟨g21, ?_⟩
        obtain ⟨g20, h⟩ := of_guard h
        refine ⟨g20, ?_⟩
        refine ⟨T, T, ?_⟩
        exact ⟨⟨T, T, T⟩, ih (List.set x8 (Int.toNat x9) (0 : Int)) (IntKind.wrap .i64 (x9 + (1 : Int))) r h⟩
      · rw [if_neg (dF_ b19)] at h
        refine ⟨T, T, T, ?_⟩
        exact ⟨⟨T, T, T⟩, ih x8 (IntKind.wrap .i64 (x9 + (1 : Int))) r h⟩
    · rw [if_neg (dF_ b18)] at h
      obtain rfl := oi h
      exact ⟨⟨T, T, T⟩, rfl, rfl⟩
def halterref25_Exec.f (a0 : Int) (a1 : Int) (a2 : (List Int)) : Option (Int × Int × (List Int)) :=
  (halterref25_Exec.l0 a0 a1 FUEL a2 (0 : Int)).bind fun t17 =>
  some (a0, a1, t17)
def halterref25_Exec.R (r : Int × Int × (List Int)) : Tm := .v (.agg [.c (.sc (.int .u32 r.1)), .c (.sc (.int .u32 r.2.1)), .row 32 (.int .u32) r.2.2])
theorem halterref25_Exec.fun_ {a0 : Int} {a1 : Int} {a2 : (List Int)} {r : Int × Int × (List Int)} (h : halterref25_Exec.f a0 a1 a2 = some r) : Fun cfg 30 [.agg [.c (.sc (.int .u32 a0)), .c (.sc (.int .u32 a1)), .row 32 (.int .u32) a2]] [] (halterref25_Exec.R r) [] := by
  unfold halterref25_Exec.f at h
  refine fun_of_run cfg_ok (f := 30) (fn := Tryz.f30) Tryz.func30 rfl (by kernel_rfl) (rs := [.cell 2 31]) rfl (nt := 17) rfl (l := fin) (k := (aE 3 (.adj [.keep [1, 2, 3]] (.sub ((List Int)) (fun _ => (.exit 0)) (fun t17 => ⟨[A, .v (.one (.ptr 0 ⟨0, 0, 0, 0⟩)), .v (.one (.ptr 1 ⟨0, 0, 0, 0⟩)), A, A, A, A, A, A, A, A, A, A, A, A, A, A], [.ex false [.c (.sc (.int .u32 a0)), .c (.sc (.int .u32 a1)), .row 32 (.int .u32) t17] 31, .ex false [.c (.sc (.int .u32 (0 : Int))), .c (.sc (.int .u32 (0 : Int))), .row 32 (.int .u32) (List.replicate 32 (0 : Int))] 31], 0⟩) (fun t17 => (aE 2 (.adj [.drop 0] .nil))))))) (to_goal (q := (U ∧ (U ∧ (U ∧ (((U) ∧ U) ∧ (∃ t17 : (List Int), Trip cfg (.loop (cpath (Tryz.f30.body.getD .skip) [1, 0, 1, 0, 0])) ⟨[A, .v (.one (.ptr 0 ⟨0, 0, 0, 0⟩)), .v (.one (.ptr 1 ⟨0, 0, 0, 0⟩)), vi .i64 (0 : Int), A, A, A, A, A, A, A, A, A, A, A, A, A], [.ex false [.c (.sc (.int .u32 a0)), .c (.sc (.int .u32 a1)), .row 32 (.int .u32) a2] 31, .ex false [.c (.sc (.int .u32 (0 : Int))), .c (.sc (.int .u32 (0 : Int))), .row 32 (.int .u32) (List.replicate 32 (0 : Int))] 31], 0⟩ (fun e s => e = (.exit 0) ∧ s = ⟨[A, .v (.one (.ptr 0 ⟨0, 0, 0, 0⟩)), .v (.one (.ptr 1 ⟨0, 0, 0, 0⟩)), A, A, A, A, A, A, A, A, A, A, A, A, A, A], [.ex false [.c (.sc (.int .u32 a0)), .c (.sc (.int .u32 a1)), .row 32 (.int .u32) t17] 31, .ex false [.c (.sc (.int .u32 (0 : Int))), .c (.sc (.int .u32 (0 : Int))), .row 32 (.int .u32) (List.replicate 32 (0 : Int))] 31], 0⟩) ∧ (U ∧ (U) ∧ (U) ∧ (U ∧ (((U) ∧ U) ∧ ((U) ∧ U) ∧ (.v (.agg [.c (.sc (.int .u32 a0)), .c (.sc (.int .u32 a1)), .row 32 (.int .u32) t17]) : Tm) = halterref25_Exec.R r ∧ ([] : List Box) = []))))))))) (by kernel_rfl) ?_)
  refine ⟨T, T, T, ?_⟩
  obtain ⟨t17, ht17, h⟩ := of_bind h
  refine ⟨⟨T, T⟩, t17, Trip.loop FUEL (halterref25_Exec.l0_ok a0 a1 FUEL a2 (0 : Int) t17 ht17), ?_⟩
  refine ⟨T, T, T, T, ?_⟩
  obtain rfl := oi h
  exact ⟨⟨T, T⟩, ⟨T, T⟩, rfl, rfl⟩
/-! halter/halterref33.Exec -/
def halterref33_Exec.c0 : AV := .agg [.c (.sc (.int .i64 (0 : Int))), .c (.sc (.int .i64 (0 : Int))), .c (.sc (.string ByteArray.empty)), .row 16 (.int .u32) (List.replicate 16 (0 : Int)), .c (.sc (.int .u32 (0 : Int))), .c (.sc (.int .u32 (0 : Int))), .row 4 (.int .u64) (List.replicate 4 (0 : Int)), .row 8 (.int .i64) (List.replicate 8 (0 : Int)), .c (.sc (.int .u32 (0 : Int))), .c (.sc (.int .u32 (0 : Int))), .row 32 (.int .u32) (List.replicate 32 (0 : Int)), .c (.sc (.int .i64 (0 : Int))), .c (.sc (.bool false)), .c (.sc (.int .u32 (0 : Int))), .c (.sc (.int .i64 (0 : Int))), .c (.sc (.int .i64 (0 : Int))), .c (.sc (.bool false)), .c (.sc (.bool false)), .c (.sc (.bool false)), .c (.sc (.int .i64 (0 : Int))), .c (.sc (.int .i64 (0 : Int)))]
def halterref33_Exec.f (a0 : Int) (a1 : Int) (a2 : ByteArray) (a3 : (List Int)) (a4 : Int) (a5 : Int) (a6 : (List Int)) (a7 : (List Int)) (a8 : Int) (a9 : Int) (a10 : (List Int)) (a11 : Int) (a12 : Bool) (a13 : Int) (a14 : Int) (a15 : Int) (a16 : Bool) (a17 : Bool) (a18 : Bool) (a19 : Int) (a20 : Int) (a21 : ByteArray) (a22 : Int) (a23 : Int) : Option (TY2) :=
  (halterref33_May.f a0 a1 a2 a3 a4 a5 a6 a7 a8 a9 a10 a11 a12 a13 a14 a15 a16 a17 a18 a19 a20).bind fun t1 =>
  if ¬ (t1 = true) then
    some ((0 : Int), (0 : Int), ByteArray.empty, (List.replicate 16 (0 : Int)), (0 : Int), (0 : Int), (List.replicate 4 (0 : Int)), (List.replicate 8 (0 : Int)), (0 : Int), (0 : Int), (List.replicate 32 (0 : Int)), (0 : Int), false, (0 : Int), (0 : Int), (0 : Int), false, false, false, (0 : Int), (0 : Int), (22 : Int))
  else
    (halterref16_Check.f a21).bind fun t3 =>
    if ¬ t3 = (0 : Int) then
      some ((0 : Int), (0 : Int), ByteArray.empty, (List.replicate 16 (0 : Int)), (0 : Int), (0 : Int), (List.replicate 4 (0 : Int)), (List.replicate 8 (0 : Int)), (0 : Int), (0 : Int), (List.replicate 32 (0 : Int)), (0 : Int), false, (0 : Int), (0 : Int), (0 : Int), false, false, false, (0 : Int), (0 : Int), (22 : Int))
    else
      if a23 < (0 : Int) then
        some ((0 : Int), (0 : Int), ByteArray.empty, (List.replicate 16 (0 : Int)), (0 : Int), (0 : Int), (List.replicate 4 (0 : Int)), (List.replicate 8 (0 : Int)), (0 : Int), (0 : Int), (List.replicate 32 (0 : Int)), (0 : Int), false, (0 : Int), (0 : Int), (0 : Int), false, false, false, (0 : Int), (0 : Int), (22 : Int))
      else
        if a23 > (4080 : Int) then
          some ((0 : Int), (0 : Int), ByteArray.empty, (List.replicate 16 (0 : Int)), (0 : Int), (0 : Int), (List.replicate 4 (0 : Int)), (List.replicate 8 (0 : Int)), (0 : Int), (0 : Int), (List.replicate 32 (0 : Int)), (0 : Int), false, (0 : Int), (0 : Int), (0 : Int), false, false, false, (0 : Int), (0 : Int), (22 : Int))
        else
          (halterref33_Begun.f a22).bind fun t7 =>
          (halterref25_Exec.f a8 a9 a10).bind fun t8 =>
          some (a0, a1, a21, t7.1, t7.2.1, t7.2.2.1, t7.2.2.2, a7, t8.1, t8.2.1, t8.2.2, a11, a12, a13, a14, a15, a16, a17, a18, (0 : Int), a23, (0 : Int))
def halterref33_Exec.R (r : TY2) : Tm := .tup [.agg [.c (.sc (.int .i64 r.1)), .c (.sc (.int .i64 r.2.1)), .c (.sc (.string r.2.2.1)), .row 16 (.int .u32) r.2.2.2.1, .c (.sc (.int .u32 r.2.2.2.2.1)), .c (.sc (.int .u32 r.2.2.2.2.2.1)), .row 4 (.int .u64) r.2.2.2.2.2.2.1, .row 8 (.int .i64) r.2.2.2.2.2.2.2.1, .c (.sc (.int .u32 r.2.2.2.2.2.2.2.2.1)), .c (.sc (.int .u32 r.2.2.2.2.2.2.2.2.2.1)), .row 32 (.int .u32) r.2.2.2.2.2.2.2.2.2.2.1, .c (.sc (.int .i64 r.2.2.2.2.2.2.2.2.2.2.2.1)), .c (.sc (.bool r.2.2.2.2.2.2.2.2.2.2.2.2.1)), .c (.sc (.int .u32 r.2.2.2.2.2.2.2.2.2.2.2.2.2.1)), .c (.sc (.int .i64 r.2.2.2.2.2.2.2.2.2.2.2.2.2.2.1)), .c (.sc (.int .i64 r.2.2.2.2.2.2.2.2.2.2.2.2.2.2.2.1)), .c (.sc (.bool r.2.2.2.2.2.2.2.2.2.2.2.2.2.2.2.2.1)), .c (.sc (.bool r.2.2.2.2.2.2.2.2.2.2.2.2.2.2.2.2.2.1)), .c (.sc (.bool r.2.2.2.2.2.2.2.2.2.2.2.2.2.2.2.2.2.2.1)), .c (.sc (.int .i64 r.2.2.2.2.2.2.2.2.2.2.2.2.2.2.2.2.2.2.2.1)), .c (.sc (.int .i64 r.2.2.2.2.2.2.2.2.2.2.2.2.2.2.2.2.2.2.2.2.1))], .one (.sc (.int .i64 r.2.2.2.2.2.2.2.2.2.2.2.2.2.2.2.2.2.2.2.2.2))]
theorem halterref33_Exec.fun_ {a0 : Int} {a1 : Int} {a2 : ByteArray} {a3 : (List Int)} {a4 : Int} {a5 : Int} {a6 : (List Int)} {a7 : (List Int)} {a8 : Int} {a9 : Int} {a10 : (List Int)} {a11 : Int} {a12 : Bool} {a13 : Int} {a14 : Int} {a15 : Int} {a16 : Bool} {a17 : Bool} {a18 : Bool} {a19 : Int} {a20 : Int} {a21 : ByteArray} {a22 : Int} {a23 : Int} {r : TY2} (h : halterref33_Exec.f a0 a1 a2 a3 a4 a5 a6 a7 a8 a9 a10 a11 a12 a13 a14 a15 a16 a17 a18 a19 a20 a21 a22 a23 = some r) : Fun cfg 9 [.agg [.c (.sc (.int .i64 a0)), .c (.sc (.int .i64 a1)), .c (.sc (.string a2)), .row 16 (.int .u32) a3, .c (.sc (.int .u32 a4)), .c (.sc (.int .u32 a5)), .row 4 (.int .u64) a6, .row 8 (.int .i64) a7, .c (.sc (.int .u32 a8)), .c (.sc (.int .u32 a9)), .row 32 (.int .u32) a10, .c (.sc (.int .i64 a11)), .c (.sc (.bool a12)), .c (.sc (.int .u32 a13)), .c (.sc (.int .i64 a14)), .c (.sc (.int .i64 a15)), .c (.sc (.bool a16)), .c (.sc (.bool a17)), .c (.sc (.bool a18)), .c (.sc (.int .i64 a19)), .c (.sc (.int .i64 a20))], .one (.sc (.string a21)), .one (.sc (.int .u32 a22)), .one (.sc (.int .i64 a23))] [] (halterref33_Exec.R r) [] := by
  unfold halterref33_Exec.f at h
  refine fun_of_run cfg_ok (f := 9) (fn := Tryz.f9) Tryz.func9 rfl (by kernel_rfl) (rs := [.cell 8 35, .tmp 9]) rfl (nt := 40) rfl (l := fin) (k := (.call true [] (Bool) halterref33_May.R (fun t1 => (.br (oT 10 (aE 2 (.adj [.drop 0] .nil))) (.one false (.call true [] (Int) halterref16_Check.R (fun t3 => (oF 2 (.br (oT 6 (aE 2 (.adj [.drop 0] .nil))) (oF 2 (.br (oT 3 (aE 2 (.adj [.drop 0] .nil))) (oF 2 (.br (aE 2 (.adj [.drop 0] .nil)) (.call true [] ((List Int) × Int × Int × (List Int)) halterref33_Begun.R (fun t7 => (.call true [] (Int × Int × (List Int)) halterref25_Exec.R (fun t8 => (aE 4 (.adj [.drop 0] .nil))))))))))))))))))) (to_goal (q := (U) ∧ (∃ t1 : Bool, (Fun cfg 21 [.agg [.c (.sc (.int .i64 a0)), .c (.sc (.int .i64 a1)), .c (.sc (.string a2)), .row 16 (.int .u32) a3, .c (.sc (.int .u32 a4)), .c (.sc (.int .u32 a5)), .row 4 (.int .u64) a6, .row 8 (.int .i64) a7, .c (.sc (.int .u32 a8)), .c (.sc (.int .u32 a9)), .row 32 (.int .u32) a10, .c (.sc (.int .i64 a11)), .c (.sc (.bool a12)), .c (.sc (.int .u32 a13)), .c (.sc (.int .i64 a14)), .c (.sc (.int .i64 a15)), .c (.sc (.bool a16)), .c (.sc (.bool a17)), .c (.sc (.bool a18)), .c (.sc (.int .i64 a19)), .c (.sc (.int .i64 a20))]] [] (halterref33_May.R t1) [] ∧ U) ∧ (((!t1) = false → ((!t1) = false ∧ (∃ t3 : Int, (Fun cfg 28 [.one (.sc (.string a21))] [] (halterref16_Check.R t3) [] ∧ U) ∧ ((!t1) = false ∧ (U) ∧ ((!t1) = false ∧ (((t3 != (0 : Int)) = false → ((t3 != (0 : Int)) = false ∧ (U) ∧ ((t3 != (0 : Int)) = false ∧ (((decide (a23 < (0 : Int))) = false → ((decide (a23 < (0 : Int))) = false ∧ (U) ∧ ((decide (a23 < (0 : Int))) = false ∧ (((decide (a23 > (4080 : Int))) = true → (U ∧ (U) ∧ (U ∧ (((U) ∧ U) ∧ ((U) ∧ U) ∧ (.tup [halterref33_Exec.c0, .one (.sc (.int .i64 (22 : Int)))] : Tm) = halterref33_Exec.R r ∧ ([] : List Box) = [])))) ∧ ((decide (a23 > (4080 : Int))) = false → (U) ∧ (∃ t7 : (List Int) × Int × Int × (List Int), (Fun cfg 29 [.one (.sc (.int .u32 a22))] [] (halterref33_Begun.R t7) [] ∧ U) ∧ (U) ∧ (U) ∧ (∃ t8 : Int × Int × (List Int), (Fun cfg 30 [.agg [.c (.sc (.int .u32 a8)), .c (.sc (.int .u32 a9)), .row 32 (.int .u32) a10]] [] (halterref25_Exec.R t8) [] ∧ U) ∧ (U) ∧ (U ∧ (U) ∧ (U ∧ (U) ∧ (U ∧ (U) ∧ (U) ∧ (U ∧ (((U) ∧ U) ∧ ((U) ∧ U) ∧ (.tup [.agg [.c (.sc (.int .i64 a0)), .c (.sc (.int .i64 a1)), .c (.sc (.string a21)), .row 16 (.int .u32) t7.1, .c (.sc (.int .u32 t7.2.1)), .c (.sc (.int .u32 (p2 t7))), .row 4 (.int .u64) (z3 t7), .row 8 (.int .i64) a7, .c (.sc (.int .u32 t8.1)), .c (.sc (.int .u32 t8.2.1)), .row 32 (.int .u32) (z2 t8), .c (.sc (.int .i64 a11)), .c (.sc (.bool a12)), .c (.sc (.int .u32 a13)), .c (.sc (.int .i64 a14)), .c (.sc (.int .i64 a15)), .c (.sc (.bool a16)), .c (.sc (.bool a17)), .c (.sc (.bool a18)), .c (.sc (.int .i64 (0 : Int))), .c (.sc (.int .i64 a23))], .one (.sc (.int .i64 (0 : Int)))] : Tm) = halterref33_Exec.R r ∧ ([] : List Box) = [])))))))))))) ∧ ((decide (a23 < (0 : Int))) = true → ((decide (a23 < (0 : Int))) = true ∧ ((decide (a23 < (0 : Int))) = true ∧ (true = true ∧ (U ∧ (U) ∧ (U ∧ (((U) ∧ U) ∧ ((U) ∧ U) ∧ (.tup [halterref33_Exec.c0, .one (.sc (.int .i64 (22 : Int)))] : Tm) = halterref33_Exec.R r ∧ ([] : List Box) = []))))))))))) ∧ ((t3 != (0 : Int)) = true → ((t3 != (0 : Int)) = true ∧ ((t3 != (0 : Int)) = true ∧ (true = true ∧ (true = true ∧ (true = true ∧ (true = true ∧ (U ∧ (U) ∧ (U ∧ (((U) ∧ U) ∧ ((U) ∧ U) ∧ (.tup [halterref33_Exec.c0, .one (.sc (.int .i64 (22 : Int)))] : Tm) = halterref33_Exec.R r ∧ ([] : List Box) = [])))))))))))))))) ∧ ((!t1) = true → ((!t1) = true ∧ ((!t1) = true ∧ ((!t1) = true ∧ (true = true ∧ (true = true ∧ (true = true ∧ (true = true ∧ (true = true ∧ (true = true ∧ (true = true ∧ (U ∧ (U) ∧ (U ∧ (((U) ∧ U) ∧ ((U) ∧ U) ∧ (.tup [halterref33_Exec.c0, .one (.sc (.int .i64 (22 : Int)))] : Tm) = halterref33_Exec.R r ∧ ([] : List Box) = []))))))))))))))))) (by kernel_rfl) ?_)
  refine tI ?_
  obtain ⟨t1, ht1, h⟩ := of_bind h
  refine ⟨t1, ⟨halterref33_May.fun_ ht1, T⟩, ?_⟩
  refine ⟨fun b2 => ?_, fun b2 => ?_⟩
  · rw [if_neg (not_not_intro (not_f b2))] at h
    refine ⟨b2, ?_⟩
    obtain ⟨t3, ht3, h⟩ := of_bind h
    refine ⟨t3, ⟨halterref16_Check.fun_ ht3, T⟩, ?_⟩
    refine ⟨b2, ?_⟩
    refine tI ?_
    refine ⟨b2, ?_⟩
    refine ⟨fun b4 => ?_, fun b4 => ?_⟩
    · rw [if_neg (not_not_intro (bne_f b4))] at h
      refine ⟨b4, ?_⟩
      refine tI ?_
      refine ⟨b4, ?_⟩
      refine ⟨fun b5 => ?_, fun b5 => ?_⟩
      · rw [if_neg (dF_ b5)] at h
        refine ⟨b5, ?_⟩
        refine tI ?_
        refine ⟨b5, ?_⟩
        refine ⟨fun b6 => ?_, fun b6 => ?_⟩
        · rw [if_pos (dT_ b6)] at h
          refine ⟨T, T, T, ?_⟩
          obtain rfl := oi h
          exact ⟨⟨T, T⟩, ⟨T, T⟩, rfl, rfl⟩
        · rw [if_neg (dF_ b6)] at h
          refine tI ?_
          obtain ⟨t7, ht7, h⟩ := of_bind h
          refine ⟨t7, ⟨halterref33_Begun.fun_ ht7, T⟩, ?_⟩
          refine ⟨T, T, ?_⟩
          obtain ⟨t8, ht8, h⟩ := of_bind h
          refine ⟨t8, ⟨halterref25_Exec.fun_ ht8, T⟩, ?_⟩
          refine ⟨T, T, T, T, T, T, T, T, T, ?_⟩
          obtain rfl := oi h
          exact ⟨⟨T, T⟩, ⟨T, T⟩, rfl, rfl⟩
      · rw [if_pos (dT_ b5)] at h
        refine ⟨b5, ?_⟩
        refine ⟨b5, ?_⟩
        refine ⟨rfl, T, T, T, ?_⟩
        obtain rfl := oi h
        exact ⟨⟨T, T⟩, ⟨T, T⟩, rfl, rfl⟩
    · rw [if_pos (bne_t b4)] at h
      refine ⟨b4, ?_⟩
      refine ⟨b4, ?_⟩
      refine ⟨rfl, rfl, rfl, rfl, T, T, T, ?_⟩
      obtain rfl := oi h
      exact ⟨⟨T, T⟩, ⟨T, T⟩, rfl, rfl⟩
  · rw [if_pos (ff (not_t b2))] at h
    refine ⟨b2, ?_⟩
    refine ⟨b2, ?_⟩
    refine ⟨b2, ?_⟩
    refine ⟨rfl, rfl, rfl, rfl, rfl, rfl, rfl, T, T, T, ?_⟩
    obtain rfl := oi h
    exact ⟨⟨T, T⟩, ⟨T, T⟩, rfl, rfl⟩
/-! halter/halterref03.Of -/
def halterref03_Of.l1 (x2 : Int) (a0 : (List Int)) : Nat → Int → Int → Option Int
  | 0, _, _ => none
  | n + 1, x16, x17 =>
    if x17 < (((List.length a0) : Nat) : Int) then
      if 0 ≤ x17 ∧ x17 < (((List.length a0) : Nat) : Int) then
        if (List.getD a0 (Int.toNat x17) (0 : Int)) = x2 then
          some (IntKind.wrap .u32 (x16 + (1 : Int)))
        else
          halterref03_Of.l1 x2 a0 n x16 (IntKind.wrap .i64 (x17 + (1 : Int)))
      else none
    else
      some x16
def halterref03_Of.l1_S (x2 : Int) (a0 : (List Int)) (x16 : Int) (x17 : Int) : St := ⟨[.v (.one (.fs (.int .i64) a0 false)), A, A, vi .u32 x16, vi .i64 x2, vi .i64 x17, A, A, A, A, A, A, A, A, A, A, A, A, A, A, A, A, A, A, A, A, A], [], 0⟩
def halterref03_Of.l1_Q (x2 : Int) (a0 : (List Int)) (t : Int) : Exit → St → Prop := fun e s => e = (.exit 2) ∧ s = ⟨[.v (.one (.fs (.int .i64) a0 false)), A, A, vi .u32 t, vi .i64 x2, A, A, A, A, A, A, A, A, A, A, A, A, A, A, A, A, A, A, A, A, A, A], [], 0⟩
theorem halterref03_Of.l1_ok (x2 : Int) (a0 : (List Int)) : ∀ (n : Nat) (x16 : Int) (x17 : Int) (r : Int), halterref03_Of.l1 x2 a0 n x16 x17 = some r → TripN cfg (cpath (Tryz.f67.body.getD .skip) [1, 1, 0, 1, 0, 0, 1, 0, 0, 1, 1, 0, 0]) n (halterref03_Of.l1_S x2 a0 x16 x17) (halterref03_Of.l1_Q x2 a0 r) := by
  intro n
  induction n with
  | zero => intro x16 x17 r h; cases h
  | succ n ih =>
    intro x16 x17 r h
    rw [halterref03_Of.l1] at h
    refine TripN.of_run cfg_ok (k := (.br (.br (.adj [] (.adj [.keep [0, 3, 4], .drop 0] .nil)) (aE 2 (.adj [.keep [0, 3, 4, 5], .drop 0] .nil))) (.adj [.keep [0, 3, 4], .drop 0] .nil))) (to_goal (q := (U) ∧ (U) ∧ (((decide (x17 < (((List.length a0) : Nat) : Int))) = true → (0 ≤ x17 ∧ x17 < (((List.length a0) : Nat) : Int)) ∧ (U) ∧ (U) ∧ ((((List.getD a0 (Int.toNat x17) (0 : Int)) == x2) = true → (U ∧ (U) ∧ (((U) ∧ (U) ∧ U) ∧ halterref03_Of.l1_Q x2 a0 r (.exit 2) ⟨[.v (.one (.fs (.int .i64) a0 false)), A, A, vi .u32 (IntKind.wrap .u32 (x16 + (1 : Int))), vi .i64 x2, A, A, A, A, A, A, A, A, A, A, A, A, A, A, A, A, A, A, A, A, A, A], [], 0⟩))) ∧ (((List.getD a0 (Int.toNat x17) (0 : Int)) == x2) = false → (U ∧ (U ∧ (U) ∧ (((U) ∧ (U) ∧ U) ∧ TripN cfg (cpath (Tryz.f67.body.getD .skip) [1, 1, 0, 1, 0, 0, 1, 0, 0, 1, 1, 0, 0]) n (halterref03_Of.l1_S x2 a0 x16 (IntKind.wrap .i64 (x17 + (1 : Int)))) (halterref03_Of.l1_Q x2 a0 r))))))) ∧ ((decide (x17 < (((List.length a0) : Nat) : Int))) = false → (((U) ∧ (U) ∧ U) ∧ halterref03_Of.l1_Q x2 a0 r (.exit 2) ⟨[.v (.one (.fs (.int .i64) a0 false)), A, A, vi .u32 x16, vi .i64 x2, A, A, A, A, A, A, A, A, A, A, A, A, A, A, A, A, A, A, A, A, A, A], [], 0⟩)))) (by kernel_rfl) ?_)
    refine ⟨T, T, ?_⟩
    refine ⟨fun b23 => ?_, fun b23 => ?_⟩
    · rw [if_pos (dT_ b23)] at h
      obtain ⟨g25, h⟩ := of_guard h
      refine ⟨g25, ?_⟩
      refine ⟨T, T, ?_⟩
      refine ⟨fun b24 => ?_, fun b24 => ?_⟩
      · rw [if_pos (beq_t b24)] at h
        refine ⟨T, T, ?_⟩
        obtain rfl := oi h
        exact ⟨⟨T, T, T⟩, rfl, rfl⟩
      · rw [if_neg (beq_f b24)] at h
        refine ⟨T, T, T, ?_⟩
        exact ⟨⟨T, T, T⟩, ih x16 (IntKind.wrap .i64 (x17 + (1 : Int))) r h⟩
    · rw [if_neg (dF_ b23)] at h
      obtain rfl := oi h
      exact ⟨⟨T, T, T⟩, rfl, rfl⟩
def halterref03_Of.l0 (a0 : (List Int)) : Nat → Int → Int → Option Int
  | 0, _, _ => none
  | n + 1, x1, x2 =>
    if x2 ≥ (1 : Int) then
      (halterref03_Of.l1 x2 a0 FUEL (IntKind.wrap .u32 ((2 : Int) * x1)) (0 : Int)).bind fun t22 =>
      halterref03_Of.l0 a0 n t22 (IntKind.wrap .i64 (x2 - (1 : Int)))
    else
      some x1
def halterref03_Of.l0_S (a0 : (List Int)) (x1 : Int) (x2 : Int) : St := ⟨[.v (.one (.fs (.int .i64) a0 false)), A, A, vi .u32 x1, vi .i64 x2, A, A, A, A, A, A, A, A, A, A, A, A, A, A, A, A, A, A, A, A, A, A], [], 0⟩
def halterref03_Of.l0_Q (a0 : (List Int)) (t : Int) : Exit → St → Prop := fun e s => e = (.exit 0) ∧ s = ⟨[A, A, A, vi .u32 t, A, A, A, A, A, A, A, A, A, A, A, A, A, A, A, A, A, A, A, A, A, A, A], [], 0⟩
end Go.Proofs.YtbnlochgbhcfnaaGreatDoorGProcSteps
