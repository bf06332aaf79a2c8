/- Printed by gen.py: what functions of the program compute, in plain Lean, and that they do. -/
import Derived.Test.YticdckalmebhmaaDoorE15
import Derived.Test.YticdckalmebhmaaDoorN
set_option linter.unusedVariables false
set_option maxRecDepth 100000
set_option maxHeartbeats 4000000
namespace Go.Proofs.YticdckalmebhmaaDoorGFileRuns
open Go Go.Proofs.YticdckalmebhmaaDoorE
def tiL : List (Nat × TI) := [
  (3, ⟨1, 8, false, .int .i64, [.c (.sc (.int .i64 (0 : Int)))], some (.int .i64)⟩),
  (4, ⟨1, 1, false, .bool, [.c (.sc (.bool false))], some .bool⟩),
  (9, ⟨1, 16, false, .str, [.c (.sc (.string ByteArray.empty))], some .str⟩),
  (23, ⟨7, 56, true, (.struct [(0, 3), (1, 3), (2, 3), (3, 4), (4, 4), (5, 9), (6, 3)]), [.c (.sc (.int .i64 (0 : Int))), .c (.sc (.int .i64 (0 : Int))), .c (.sc (.int .i64 (0 : Int))), .c (.sc (.bool false)), .c (.sc (.bool false)), .c (.sc (.string ByteArray.empty)), .c (.sc (.int .i64 (0 : Int)))], some (.pair (.int .i64) (.pair (.int .i64) (.pair (.int .i64) (.pair .bool (.pair .bool (.pair .str (.int .i64)))))))⟩),
  (27, ⟨1, 16, false, .iface, [.c (.err none)], none⟩),
  (30, ⟨7, 56, true, (.struct [(0, 3), (1, 3), (2, 3), (3, 4), (4, 4), (5, 9), (6, 3)]), [.c (.sc (.int .i64 (0 : Int))), .c (.sc (.int .i64 (0 : Int))), .c (.sc (.int .i64 (0 : Int))), .c (.sc (.bool false)), .c (.sc (.bool false)), .c (.sc (.string ByteArray.empty)), .c (.sc (.int .i64 (0 : Int)))], some (.pair (.int .i64) (.pair (.int .i64) (.pair (.int .i64) (.pair .bool (.pair .bool (.pair .str (.int .i64)))))))⟩),
  (35, ⟨1, 8, false, (.ptr 72), [.c (.sc (.pointer none))], none⟩),
  (41, ⟨1, 8, false, .int .u64, [.c (.sc (.int .u64 (0 : Int)))], some (.int .u64)⟩),
  (46, ⟨1, 24, false, (.slice 3), [.c (.sc (.slice none 0 0))], some (.sl (.int .i64))⟩),
  (49, ⟨1, 24, false, (.slice 55), [.c (.sc (.slice none 0 0))], some (.sl (.pair (.int .i64) (.pair (.int .i64) (.pair (.int .i64) (.pair (.int .i64) (.pair (.int .i64) (.pair (.int .i64) (.pair .bool (.pair .bool (.pair .str (.int .i64)))))))))))⟩),
  (51, ⟨1, 24, false, (.slice 79), [.c (.sc (.slice none 0 0))], some (.sl (.pair (.int .i64) (.pair (.int .i64) (.pair (.int .i64) (.pair (.int .i64) (.pair .bool (.pair .bool (.pair .str (.int .i64)))))))))⟩),
  (53, ⟨2, 32, true, (.struct [(0, 3), (1, 51)]), [.c (.sc (.int .i64 (0 : Int))), .c (.sc (.slice none 0 0))], some (.pair (.int .i64) (.sl (.pair (.int .i64) (.pair (.int .i64) (.pair (.int .i64) (.pair (.int .i64) (.pair .bool (.pair .bool (.pair .str (.int .i64))))))))))⟩),
  (55, ⟨10, 80, true, (.struct [(0, 3), (1, 3), (2, 3), (3, 23)]), [.c (.sc (.int .i64 (0 : Int))), .c (.sc (.int .i64 (0 : Int))), .c (.sc (.int .i64 (0 : Int))), .c (.sc (.int .i64 (0 : Int))), .c (.sc (.int .i64 (0 : Int))), .c (.sc (.int .i64 (0 : Int))), .c (.sc (.bool false)), .c (.sc (.bool false)), .c (.sc (.string ByteArray.empty)), .c (.sc (.int .i64 (0 : Int)))], some (.pair (.int .i64) (.pair (.int .i64) (.pair (.int .i64) (.pair (.int .i64) (.pair (.int .i64) (.pair (.int .i64) (.pair .bool (.pair .bool (.pair .str (.int .i64))))))))))⟩),
  (65, ⟨1, 8, false, .int .i64, [.c (.sc (.int .i64 (0 : Int)))], some (.int .i64)⟩),
  (66, ⟨3, 24, true, (.array 3 3), [.row 3 (.int .i64) (List.replicate 3 (0 : Int))], some (.arr 3 (.int .i64))⟩),
  (70, ⟨1, 24, false, (.slice 30), [.c (.sc (.slice none 0 0))], some (.sl (.pair (.int .i64) (.pair (.int .i64) (.pair (.int .i64) (.pair .bool (.pair .bool (.pair .str (.int .i64))))))))⟩),
  (72, ⟨1, 24, true, (.struct [(0, 70)]), [.c (.sc (.slice none 0 0))], some (.sl (.pair (.int .i64) (.pair (.int .i64) (.pair (.int .i64) (.pair .bool (.pair .bool (.pair .str (.int .i64))))))))⟩),
  (79, ⟨8, 64, true, (.struct [(0, 3), (1, 23)]), [.c (.sc (.int .i64 (0 : Int))), .c (.sc (.int .i64 (0 : Int))), .c (.sc (.int .i64 (0 : Int))), .c (.sc (.int .i64 (0 : Int))), .c (.sc (.bool false)), .c (.sc (.bool false)), .c (.sc (.string ByteArray.empty)), .c (.sc (.int .i64 (0 : Int)))], some (.pair (.int .i64) (.pair (.int .i64) (.pair (.int .i64) (.pair (.int .i64) (.pair .bool (.pair .bool (.pair .str (.int .i64))))))))⟩)]
def tabs : List (Nat × IntKind × List Int) := []
noncomputable def cfg : Cfg := ⟨Tryd.prog, 65, [(⟨0, 0, none⟩, .iface 93 (.agg #[.pointer (some ⟨1, 27, none⟩)]))] ++ tabs.flatMap tabG, tiL, [30], tabs⟩
theorem cfg_ok : COk cfg := by
  refine ⟨fun p hp => ?_, by kernel_rfl, fun p hp => ?_, fun t ht => ?_, fun x hx y hy => List.mem_append_right _ (List.mem_flatMap.2 ⟨x, hx, hy⟩)⟩
  · simp only [cfg, tiL, List.mem_cons, List.not_mem_nil, or_false] at hp
    rcases hp with rfl | rfl | rfl | rfl | rfl | rfl | rfl | rfl | rfl | rfl | rfl | rfl | rfl | rfl | rfl | rfl | rfl | rfl <;> exact ⟨by kernel_rfl, by kernel_rfl, by kernel_rfl, by kernel_rfl, by kernel_rfl, by kernel_rfl⟩
  · simp only [cfg, tiL, List.mem_cons, List.not_mem_nil, or_false] at hp
    rcases hp with rfl | rfl | rfl | rfl | rfl | rfl | rfl | rfl | rfl | rfl | rfl | rfl | rfl | rfl | rfl | rfl | rfl | rfl <;> intro fs hfs bl hbl
    · cases hfs
    · cases hfs
    · cases hfs
    · cases hfs
      have e : fieldsZ cfg.L 0 [(0, 3), (1, 3), (2, 3), (3, 4), (4, 4), (5, 9), (6, 3)] = some [[.c (.sc (.int .i64 (0 : Int)))], [.c (.sc (.int .i64 (0 : Int)))], [.c (.sc (.int .i64 (0 : Int)))], [.c (.sc (.bool false))], [.c (.sc (.bool false))], [.c (.sc (.string ByteArray.empty))], [.c (.sc (.int .i64 (0 : Int)))]] := by kernel_rfl
      rw [e] at hbl
      cases hbl
      exact (by kernel_rfl : encPs (List.flatten [[.c (.sc (.int .i64 (0 : Int)))], [.c (.sc (.int .i64 (0 : Int)))], [.c (.sc (.int .i64 (0 : Int)))], [.c (.sc (.bool false))], [.c (.sc (.bool false))], [.c (.sc (.string ByteArray.empty))], [.c (.sc (.int .i64 (0 : Int)))]]) = encPs [.c (.sc (.int .i64 (0 : Int))), .c (.sc (.int .i64 (0 : Int))), .c (.sc (.int .i64 (0 : Int))), .c (.sc (.bool false)), .c (.sc (.bool false)), .c (.sc (.string ByteArray.empty)), .c (.sc (.int .i64 (0 : Int)))])
    · cases hfs
    · cases hfs
      have e : fieldsZ cfg.L 0 [(0, 3), (1, 3), (2, 3), (3, 4), (4, 4), (5, 9), (6, 3)] = some [[.c (.sc (.int .i64 (0 : Int)))], [.c (.sc (.int .i64 (0 : Int)))], [.c (.sc (.int .i64 (0 : Int)))], [.c (.sc (.bool false))], [.c (.sc (.bool false))], [.c (.sc (.string ByteArray.empty))], [.c (.sc (.int .i64 (0 : Int)))]] := by kernel_rfl
      rw [e] at hbl
      cases hbl
      exact (by kernel_rfl : encPs (List.flatten [[.c (.sc (.int .i64 (0 : Int)))], [.c (.sc (.int .i64 (0 : Int)))], [.c (.sc (.int .i64 (0 : Int)))], [.c (.sc (.bool false))], [.c (.sc (.bool false))], [.c (.sc (.string ByteArray.empty))], [.c (.sc (.int .i64 (0 : Int)))]]) = encPs [.c (.sc (.int .i64 (0 : Int))), .c (.sc (.int .i64 (0 : Int))), .c (.sc (.int .i64 (0 : Int))), .c (.sc (.bool false)), .c (.sc (.bool false)), .c (.sc (.string ByteArray.empty)), .c (.sc (.int .i64 (0 : Int)))])
    · cases hfs
    · cases hfs
    · cases hfs
    · cases hfs
    · cases hfs
    · cases hfs
      have e : fieldsZ cfg.L 0 [(0, 3), (1, 51)] = some [[.c (.sc (.int .i64 (0 : Int)))], [.c (.sc (.slice none 0 0))]] := by kernel_rfl
      rw [e] at hbl
      cases hbl
      exact (by kernel_rfl : encPs (List.flatten [[.c (.sc (.int .i64 (0 : Int)))], [.c (.sc (.slice none 0 0))]]) = encPs [.c (.sc (.int .i64 (0 : Int))), .c (.sc (.slice none 0 0))])
    · cases hfs
      have e : fieldsZ cfg.L 0 [(0, 3), (1, 3), (2, 3), (3, 23)] = some [[.c (.sc (.int .i64 (0 : Int)))], [.c (.sc (.int .i64 (0 : Int)))], [.c (.sc (.int .i64 (0 : Int)))], [.c (.sc (.int .i64 (0 : Int))), .c (.sc (.int .i64 (0 : Int))), .c (.sc (.int .i64 (0 : Int))), .c (.sc (.bool false)), .c (.sc (.bool false)), .c (.sc (.string ByteArray.empty)), .c (.sc (.int .i64 (0 : Int)))]] := by kernel_rfl
      rw [e] at hbl
      cases hbl
      exact (by kernel_rfl : encPs (List.flatten [[.c (.sc (.int .i64 (0 : Int)))], [.c (.sc (.int .i64 (0 : Int)))], [.c (.sc (.int .i64 (0 : Int)))], [.c (.sc (.int .i64 (0 : Int))), .c (.sc (.int .i64 (0 : Int))), .c (.sc (.int .i64 (0 : Int))), .c (.sc (.bool false)), .c (.sc (.bool false)), .c (.sc (.string ByteArray.empty)), .c (.sc (.int .i64 (0 : Int)))]]) = encPs [.c (.sc (.int .i64 (0 : Int))), .c (.sc (.int .i64 (0 : Int))), .c (.sc (.int .i64 (0 : Int))), .c (.sc (.int .i64 (0 : Int))), .c (.sc (.int .i64 (0 : Int))), .c (.sc (.int .i64 (0 : Int))), .c (.sc (.bool false)), .c (.sc (.bool false)), .c (.sc (.string ByteArray.empty)), .c (.sc (.int .i64 (0 : Int)))])
    · cases hfs
    · cases hfs
    · cases hfs
    · cases hfs
      have e : fieldsZ cfg.L 0 [(0, 70)] = some [[.c (.sc (.slice none 0 0))]] := by kernel_rfl
      rw [e] at hbl
      cases hbl
      exact (by kernel_rfl : encPs (List.flatten [[.c (.sc (.slice none 0 0))]]) = encPs [.c (.sc (.slice none 0 0))])
    · cases hfs
      have e : fieldsZ cfg.L 0 [(0, 3), (1, 23)] = some [[.c (.sc (.int .i64 (0 : Int)))], [.c (.sc (.int .i64 (0 : Int))), .c (.sc (.int .i64 (0 : Int))), .c (.sc (.int .i64 (0 : Int))), .c (.sc (.bool false)), .c (.sc (.bool false)), .c (.sc (.string ByteArray.empty)), .c (.sc (.int .i64 (0 : Int)))]] := by kernel_rfl
      rw [e] at hbl
      cases hbl
      exact (by kernel_rfl : encPs (List.flatten [[.c (.sc (.int .i64 (0 : Int)))], [.c (.sc (.int .i64 (0 : Int))), .c (.sc (.int .i64 (0 : Int))), .c (.sc (.int .i64 (0 : Int))), .c (.sc (.bool false)), .c (.sc (.bool false)), .c (.sc (.string ByteArray.empty)), .c (.sc (.int .i64 (0 : Int)))]]) = encPs [.c (.sc (.int .i64 (0 : Int))), .c (.sc (.int .i64 (0 : Int))), .c (.sc (.int .i64 (0 : Int))), .c (.sc (.int .i64 (0 : Int))), .c (.sc (.bool false)), .c (.sc (.bool false)), .c (.sc (.string ByteArray.empty)), .c (.sc (.int .i64 (0 : Int)))])
  · simp only [cfg, List.mem_cons, List.not_mem_nil, or_false] at ht
    rcases ht with rfl <;> kernel_rfl
def fin : Scr → List Adj
  | .adj l _ => l
  | _ => []
abbrev TY0 : Type := Int × Int × Int × Bool × Bool × ByteArray × Int × (Option Int)
abbrev TY1 : Type := Int × Int × Int × Bool × Bool × ByteArray × Int × Bool × (Option Int)
abbrev TY2 : Type := Int × Int × Int × Bool × Bool × ByteArray × Int × Int
/-! the error's number -/
def num.f (a0 : Option Int) : Option Int := some (a0.getD 0)
def num.R (r : Int) : Tm := .v (.one (.sc (.int .i64 r)))
theorem num.fun_ {a0 : Option Int} {r : Int} (h : num.f a0 = some r) : Fun cfg 9 [.one (.err a0)] [] (num.R r) [] := by
  refine Fun.of_below (f := 9) (fn := Tryd.f9) Tryd.func9 rfl (by kernel_rfl) (r := .int .i64 r) (fun X => ⟨⟨rfl, rfl⟩, rfl⟩) fun X vs hE hvs hG => ?_
  obtain ⟨v, us, rfl, hv, rfl⟩ := hvs
  have hv : v = errV X.E a0 := hv.1
  have he : errV cfg.E a0 = YticdckalmebhmaaDoorN.errW a0 := by cases a0 <;> rfl
  rw [hv, hE, he]
  exact YticdckalmebhmaaDoorN.num.calls a0 r X.w (hG _ (List.mem_append_left _ (List.mem_cons_self ..))) h
/-! (*halter/file.Table).Open -/
def file_Table_Open.f (a0 : Int) (a1 : Int) (a2 : Int) (a3 : Bool) (a4 : Bool) (a5 : ByteArray) (a6 : Int) : Option (Int × (Option Int)) :=
  some ((0 : Int), (some (22 : Int)))
def file_Table_Open.R (r : Int × (Option Int)) : Tm := .tup [.one (.sc (.int .i64 r.1)), .one (.err r.2)]
def file_Table_Open.B (a0 : Int) (a1 : Int) (a2 : Int) (a3 : Bool) (a4 : Bool) (a5 : ByteArray) (a6 : Int) (r : Int × (Option Int)) : List Box := []
theorem file_Table_Open.fun_ {a0 : Int} {a1 : Int} {a2 : Int} {a3 : Bool} {a4 : Bool} {a5 : ByteArray} {a6 : Int} {r : Int × (Option Int)} (h : file_Table_Open.f a0 a1 a2 a3 a4 a5 a6 = some r) : Fun cfg 11 [.one (.sc (.pointer none)), .agg [.c (.sc (.int .i64 a0)), .c (.sc (.int .i64 a1)), .c (.sc (.int .i64 a2)), .c (.sc (.bool a3)), .c (.sc (.bool a4)), .c (.sc (.string a5)), .c (.sc (.int .i64 a6))]] [] (file_Table_Open.R r) (file_Table_Open.B a0 a1 a2 a3 a4 a5 a6 r) := by
  unfold file_Table_Open.f at h
  refine fun_of_run cfg_ok (f := 11) (fn := Tryd.f11) Tryd.func11 rfl (by kernel_rfl) (rs := [.tmp 4, .tmp 5]) rfl (nt := 43) rfl (l := fin) (k := (.one true (.one true (.one true (.one true (.one true (.adj [] (.adj [] (.adj [.drop 0] .nil))))))))) (to_goal (q := (True) ∧ (true = true ∧ (true = true ∧ (true = true ∧ (true = true ∧ (true = true ∧ (True ∧ (True ∧ ((True) ∧ ((True) ∧ True) ∧ (.tup [.one (.sc (.int .i64 (0 : Int))), .one (.err (some (22 : Int)))] : Tm) = file_Table_Open.R r ∧ ([] : List Box) = file_Table_Open.B a0 a1 a2 a3 a4 a5 a6 r))))))))) (by kernel_rfl) ?_)
  refine ⟨trivial, ?_⟩
  refine ⟨rfl, ?_⟩
  refine ⟨rfl, ?_⟩
  refine ⟨rfl, ?_⟩
  refine ⟨rfl, ?_⟩
  refine ⟨rfl, ?_⟩
  refine ⟨trivial, ?_⟩
  refine ⟨trivial, ?_⟩
  obtain rfl := Option.some.inj h
  exact ⟨trivial, ⟨trivial, trivial⟩, rfl, rfl⟩
/-! (*halter/file.Table).at -/
def file_Table_at.f (a0 : Int) : Option (Option Int) :=
  some (some (22 : Int))
def file_Table_at.R (r : (Option Int)) : Tm := .tup [.one (.sc (.pointer none)), .one (.err r)]
def file_Table_at.B (a0 : Int) (r : (Option Int)) : List Box := []
theorem file_Table_at.fun_ {a0 : Int} {r : (Option Int)} (h : file_Table_at.f a0 = some r) : Fun cfg 25 [.one (.sc (.pointer none)), .one (.sc (.int .i64 a0))] [] (file_Table_at.R r) (file_Table_at.B a0 r) := by
  unfold file_Table_at.f at h
  refine fun_of_run cfg_ok (f := 25) (fn := Tryd.f25) Tryd.func25 rfl (by kernel_rfl) (rs := [.tmp 4, .tmp 5]) rfl (nt := 40) rfl (l := fin) (k := (.one true (.adj [] (.adj [] (.adj [] .nil))))) (to_goal (q := (True) ∧ (true = true ∧ (True ∧ (True ∧ ((True) ∧ (True) ∧ (.tup [.one (.sc (.pointer none)), .one (.err (some (22 : Int)))] : Tm) = file_Table_at.R r ∧ ([] : List Box) = file_Table_at.B a0 r))))) (by kernel_rfl) ?_)
  refine ⟨trivial, ?_⟩
  refine ⟨rfl, ?_⟩
  refine ⟨trivial, ?_⟩
  refine ⟨trivial, ?_⟩
  obtain rfl := Option.some.inj h
  exact ⟨trivial, trivial, rfl, rfl⟩
/-! (*halter/file.Table).Get -/
def file_Table_Get.f (a0 : Int) : Option (TY0) :=
  (file_Table_at.f a0).bind fun t1 =>
  if ¬ (t1 = none) then
    some ((0 : Int), (0 : Int), (0 : Int), false, false, ByteArray.empty, (0 : Int), t1)
  else
    none
def file_Table_Get.R (r : TY0) : Tm := .tup [.agg [.c (.sc (.int .i64 r.1)), .c (.sc (.int .i64 r.2.1)), .c (.sc (.int .i64 r.2.2.1)), .c (.sc (.bool r.2.2.2.1)), .c (.sc (.bool r.2.2.2.2.1)), .c (.sc (.string r.2.2.2.2.2.1)), .c (.sc (.int .i64 r.2.2.2.2.2.2.1))], .one (.err r.2.2.2.2.2.2.2)]
def file_Table_Get.B (a0 : Int) (r : TY0) : List Box := []
theorem file_Table_Get.fun_ {a0 : Int} {r : TY0} (h : file_Table_Get.f a0 = some r) : Fun cfg 12 [.one (.sc (.pointer none)), .one (.sc (.int .i64 a0))] [] (file_Table_Get.R r) (file_Table_Get.B a0 r) := by
  unfold file_Table_Get.f at h
  refine fun_of_run cfg_ok (f := 12) (fn := Tryd.f12) Tryd.func12 rfl (by kernel_rfl) (rs := [.cell 4 30, .tmp 5]) rfl (nt := 21) rfl (l := fin) (k := (.callR true [] [] ((Option Int)) (fun t1 => (file_Table_at.R t1)) (fun t1 => (file_Table_at.B a0 t1)) (fun t1 => (.br (.adj [] (.adj [] (.adj [.drop 0] .nil))) .nil)))) (to_goal (q := (∃ t1 : (Option Int), (Fun cfg 25 [.one (.sc (.pointer none)), .one (.sc (.int .i64 a0))] [] (file_Table_at.R t1) (file_Table_at.B a0 t1) ∧ True) ∧ (True) ∧ (((!(Option.isNone t1)) = true → (True ∧ (True) ∧ (True ∧ (((True) ∧ True) ∧ ((True) ∧ True) ∧ (.tup [.agg [.c (.sc (.int .i64 (0 : Int))), .c (.sc (.int .i64 (0 : Int))), .c (.sc (.int .i64 (0 : Int))), .c (.sc (.bool false)), .c (.sc (.bool false)), .c (.sc (.string ByteArray.empty)), .c (.sc (.int .i64 (0 : Int)))], .one (.err t1)] : Tm) = file_Table_Get.R r ∧ ([] : List Box) = file_Table_Get.B a0 r)))) ∧ ((!(Option.isNone t1)) = false → False)))) (by kernel_rfl) ?_)
  obtain ⟨t1, ht1, h⟩ := of_bind h
  refine ⟨t1, ⟨file_Table_at.fun_ ht1, trivial⟩, ?_⟩
  refine ⟨trivial, ?_⟩
  refine ⟨fun b2 => ?_, fun b2 => ?_⟩
  · rw [if_pos (none_f (not_t b2))] at h
    refine ⟨trivial, ?_⟩
    refine ⟨trivial, ?_⟩
    refine ⟨trivial, ?_⟩
    obtain rfl := Option.some.inj h
    exact ⟨⟨trivial, trivial⟩, ⟨trivial, trivial⟩, rfl, rfl⟩
  · rw [if_neg (not_not_intro (none_t (not_f b2)))] at h
    cases h
/-! (*halter/file.Table).Unref -/
def file_Table_Unref.f (a0 : Int) : Option (TY1) :=
  (file_Table_at.f a0).bind fun t1 =>
  if ¬ (t1 = none) then
    some ((0 : Int), (0 : Int), (0 : Int), false, false, ByteArray.empty, (0 : Int), false, t1)
  else
    none
def file_Table_Unref.R (r : TY1) : Tm := .tup [.agg [.c (.sc (.int .i64 r.1)), .c (.sc (.int .i64 r.2.1)), .c (.sc (.int .i64 r.2.2.1)), .c (.sc (.bool r.2.2.2.1)), .c (.sc (.bool r.2.2.2.2.1)), .c (.sc (.string r.2.2.2.2.2.1)), .c (.sc (.int .i64 r.2.2.2.2.2.2.1))], .one (.sc (.bool r.2.2.2.2.2.2.2.1)), .one (.err r.2.2.2.2.2.2.2.2)]
def file_Table_Unref.B (a0 : Int) (r : TY1) : List Box := []
theorem file_Table_Unref.fun_ {a0 : Int} {r : TY1} (h : file_Table_Unref.f a0 = some r) : Fun cfg 14 [.one (.sc (.pointer none)), .one (.sc (.int .i64 a0))] [] (file_Table_Unref.R r) (file_Table_Unref.B a0 r) := by
  unfold file_Table_Unref.f at h
  refine fun_of_run cfg_ok (f := 14) (fn := Tryd.f14) Tryd.func14 rfl (by kernel_rfl) (rs := [.cell 4 30, .tmp 5, .tmp 6]) rfl (nt := 34) rfl (l := fin) (k := (.callR true [] [] ((Option Int)) (fun t1 => (file_Table_at.R t1)) (fun t1 => (file_Table_at.B a0 t1)) (fun t1 => (.br (.adj [] (.adj [] (.adj [.drop 0] .nil))) .nil)))) (to_goal (q := (∃ t1 : (Option Int), (Fun cfg 25 [.one (.sc (.pointer none)), .one (.sc (.int .i64 a0))] [] (file_Table_at.R t1) (file_Table_at.B a0 t1) ∧ True) ∧ (True) ∧ (((!(Option.isNone t1)) = true → (True ∧ (True) ∧ (True ∧ (((True) ∧ True) ∧ ((True) ∧ True) ∧ (.tup [.agg [.c (.sc (.int .i64 (0 : Int))), .c (.sc (.int .i64 (0 : Int))), .c (.sc (.int .i64 (0 : Int))), .c (.sc (.bool false)), .c (.sc (.bool false)), .c (.sc (.string ByteArray.empty)), .c (.sc (.int .i64 (0 : Int)))], .one (.sc (.bool false)), .one (.err t1)] : Tm) = file_Table_Unref.R r ∧ ([] : List Box) = file_Table_Unref.B a0 r)))) ∧ ((!(Option.isNone t1)) = false → False)))) (by kernel_rfl) ?_)
  obtain ⟨t1, ht1, h⟩ := of_bind h
  refine ⟨t1, ⟨file_Table_at.fun_ ht1, trivial⟩, ?_⟩
  refine ⟨trivial, ?_⟩
  refine ⟨fun b2 => ?_, fun b2 => ?_⟩
  · rw [if_pos (none_f (not_t b2))] at h
    refine ⟨trivial, ?_⟩
    refine ⟨trivial, ?_⟩
    refine ⟨trivial, ?_⟩
    obtain rfl := Option.some.inj h
    exact ⟨⟨trivial, trivial⟩, ⟨trivial, trivial⟩, rfl, rfl⟩
  · rw [if_neg (not_not_intro (none_t (not_f b2)))] at h
    cases h
/-! (*halter/file.Table).Ref -/
def file_Table_Ref.f (a0 : Int) : Option (Option Int) :=
  (file_Table_at.f a0).bind fun t1 =>
  if ¬ (t1 = none) then
    some t1
  else
    none
def file_Table_Ref.R (r : (Option Int)) : Tm := .v (.one (.err r))
def file_Table_Ref.B (a0 : Int) (r : (Option Int)) : List Box := []
theorem file_Table_Ref.fun_ {a0 : Int} {r : (Option Int)} (h : file_Table_Ref.f a0 = some r) : Fun cfg 13 [.one (.sc (.pointer none)), .one (.sc (.int .i64 a0))] [] (file_Table_Ref.R r) (file_Table_Ref.B a0 r) := by
  unfold file_Table_Ref.f at h
  refine fun_of_run cfg_ok (f := 13) (fn := Tryd.f13) Tryd.func13 rfl (by kernel_rfl) (rs := [.tmp 4]) rfl (nt := 31) rfl (l := fin) (k := (.callR true [] [] ((Option Int)) (fun t1 => (file_Table_at.R t1)) (fun t1 => (file_Table_at.B a0 t1)) (fun t1 => (.br (.adj [] (.adj [] (.adj [] .nil))) .nil)))) (to_goal (q := (∃ t1 : (Option Int), (Fun cfg 25 [.one (.sc (.pointer none)), .one (.sc (.int .i64 a0))] [] (file_Table_at.R t1) (file_Table_at.B a0 t1) ∧ True) ∧ (True) ∧ (((!(Option.isNone t1)) = true → (True ∧ (True ∧ ((True) ∧ (True) ∧ (.v (.one (.err t1)) : Tm) = file_Table_Ref.R r ∧ ([] : List Box) = file_Table_Ref.B a0 r)))) ∧ ((!(Option.isNone t1)) = false → False)))) (by kernel_rfl) ?_)
  obtain ⟨t1, ht1, h⟩ := of_bind h
  refine ⟨t1, ⟨file_Table_at.fun_ ht1, trivial⟩, ?_⟩
  refine ⟨trivial, ?_⟩
  refine ⟨fun b2 => ?_, fun b2 => ?_⟩
  · rw [if_pos (none_f (not_t b2))] at h
    refine ⟨trivial, ?_⟩
    refine ⟨trivial, ?_⟩
    obtain rfl := Option.some.inj h
    exact ⟨trivial, trivial, rfl, rfl⟩
  · rw [if_neg (not_not_intro (none_t (not_f b2)))] at h
    cases h
/-! (*halter/file.Table).Move -/
def file_Table_Move.f (a0 : Int) (a1 : Int) : Option (Option Int) :=
  (file_Table_at.f a0).bind fun t1 =>
  if ¬ (t1 = none) then
    some t1
  else
    if a1 < (0 : Int) then
      some (some (22 : Int))
    else
      if a1 > (1073741824 : Int) then
        some (some (22 : Int))
      else
        none
def file_Table_Move.R (r : (Option Int)) : Tm := .v (.one (.err r))
def file_Table_Move.B (a0 : Int) (a1 : Int) (r : (Option Int)) : List Box := []
theorem file_Table_Move.fun_ {a0 : Int} {a1 : Int} {r : (Option Int)} (h : file_Table_Move.f a0 a1 = some r) : Fun cfg 17 [.one (.sc (.pointer none)), .one (.sc (.int .i64 a0)), .one (.sc (.int .i64 a1))] [] (file_Table_Move.R r) (file_Table_Move.B a0 a1 r) := by
  unfold file_Table_Move.f at h
  refine fun_of_run cfg_ok (f := 17) (fn := Tryd.f17) Tryd.func17 rfl (by kernel_rfl) (rs := [.tmp 6]) rfl (nt := 31) rfl (l := fin) (k := (.callR true [] [] ((Option Int)) (fun t1 => (file_Table_at.R t1)) (fun t1 => (file_Table_at.B a0 t1)) (fun t1 => (.br (.adj [] (.adj [] (.adj [] .nil))) (.br (.one true (.one true (.one true (.adj [] (.adj [] (.adj [] .nil)))))) (.one false (.one false (.br (.adj [] (.adj [] (.adj [] .nil))) .nil)))))))) (to_goal (q := (∃ t1 : (Option Int), (Fun cfg 25 [.one (.sc (.pointer none)), .one (.sc (.int .i64 a0))] [] (file_Table_at.R t1) (file_Table_at.B a0 t1) ∧ True) ∧ (True) ∧ (((!(Option.isNone t1)) = true → (True ∧ (True ∧ ((True) ∧ (True) ∧ (.v (.one (.err t1)) : Tm) = file_Table_Move.R r ∧ ([] : List Box) = file_Table_Move.B a0 a1 r)))) ∧ ((!(Option.isNone t1)) = false → (True) ∧ (((decide (a1 < (0 : Int))) = false → ((decide (a1 < (0 : Int))) = false ∧ (True) ∧ ((decide (a1 < (0 : Int))) = false ∧ (((decide (a1 > (1073741824 : Int))) = true → (True ∧ (True ∧ ((True) ∧ (True) ∧ (.v (.one (.err (some (22 : Int)))) : Tm) = file_Table_Move.R r ∧ ([] : List Box) = file_Table_Move.B a0 a1 r)))) ∧ ((decide (a1 > (1073741824 : Int))) = false → False))))) ∧ ((decide (a1 < (0 : Int))) = true → ((decide (a1 < (0 : Int))) = true ∧ ((decide (a1 < (0 : Int))) = true ∧ (true = true ∧ (True ∧ (True ∧ ((True) ∧ (True) ∧ (.v (.one (.err (some (22 : Int)))) : Tm) = file_Table_Move.R r ∧ ([] : List Box) = file_Table_Move.B a0 a1 r)))))))))))) (by kernel_rfl) ?_)
  obtain ⟨t1, ht1, h⟩ := of_bind h
  refine ⟨t1, ⟨file_Table_at.fun_ ht1, trivial⟩, ?_⟩
  refine ⟨trivial, ?_⟩
  refine ⟨fun b2 => ?_, fun b2 => ?_⟩
  · rw [if_pos (none_f (not_t b2))] at h
    refine ⟨trivial, ?_⟩
    refine ⟨trivial, ?_⟩
    obtain rfl := Option.some.inj h
    exact ⟨trivial, trivial, rfl, rfl⟩
  · rw [if_neg (not_not_intro (none_t (not_f b2)))] at h
    refine ⟨trivial, ?_⟩
    refine ⟨fun b3 => ?_, fun b3 => ?_⟩
    · rw [if_neg (of_decide_eq_false b3)] at h
      refine ⟨b3, ?_⟩
      refine ⟨trivial, ?_⟩
      refine ⟨b3, ?_⟩
      refine ⟨fun b4 => ?_, fun b4 => ?_⟩
      · rw [if_pos (of_decide_eq_true b4)] at h
        refine ⟨trivial, ?_⟩
        refine ⟨trivial, ?_⟩
        obtain rfl := Option.some.inj h
        exact ⟨trivial, trivial, rfl, rfl⟩
      · rw [if_neg (of_decide_eq_false b4)] at h
        cases h
    · rw [if_pos (of_decide_eq_true b3)] at h
      refine ⟨b3, ?_⟩
      refine ⟨b3, ?_⟩
      refine ⟨rfl, ?_⟩
      refine ⟨trivial, ?_⟩
      refine ⟨trivial, ?_⟩
      obtain rfl := Option.some.inj h
      exact ⟨trivial, trivial, rfl, rfl⟩
/-! (*halter/file.Table).List -/
def file_Table_List.f : Option (List Int) :=
  some ([] : List Int)
def file_Table_List.R (r : (List Int)) : Tm := .v (.one (.fs (.int .i64) r false))
def file_Table_List.B (r : (List Int)) : List Box := []
theorem file_Table_List.fun_ {r : (List Int)} (h : file_Table_List.f = some r) : Fun cfg 16 [.one (.sc (.pointer none))] [] (file_Table_List.R r) (file_Table_List.B r) := by
  unfold file_Table_List.f at h
  refine fun_of_run cfg_ok (f := 16) (fn := Tryd.f16) Tryd.func16 rfl (by kernel_rfl) (rs := [.tmp 2]) rfl (nt := 27) rfl (l := fin) (k := (.one true (.adj [] (.adj [] (.adj [.co 0 true [(.int .i64)]] .nil))))) (to_goal (q := (True) ∧ (true = true ∧ (True ∧ (True ∧ ((True) ∧ ((True) ∧ True) ∧ (.v (.one (.fs (.int .i64) ([] : List Int) false)) : Tm) = file_Table_List.R r ∧ ([] : List Box) = file_Table_List.B r))))) (by kernel_rfl) ?_)
  refine ⟨trivial, ?_⟩
  refine ⟨rfl, ?_⟩
  refine ⟨trivial, ?_⟩
  refine ⟨trivial, ?_⟩
  obtain rfl := Option.some.inj h
  exact ⟨trivial, ⟨trivial, trivial⟩, rfl, rfl⟩
/-! halter/file.New -/
def file_New.f (a0 : Int) : Option ((Int) ⊕ (Nat × Nat × (List (Int × (Int × (Int × (Bool × (Bool × (ByteArray × Int))))))))) :=
  if a0 < (1 : Int) then
    some (.inl (22 : Int))
  else
    if a0 > (32 : Int) then
      some (.inl (22 : Int))
    else
      if 0 ≤ a0 ∧ a0 = a0 ∧ (56 : Int) * a0 ≤ 281474976710656 ∧ a0 ≤ 9223372036854775807 then
        some (.inr ((Int.toNat a0), (Int.toNat a0), (List.replicate (Int.toNat a0) ((0 : Int), ((0 : Int), ((0 : Int), (false, (false, (ByteArray.empty, (0 : Int))))))))))
      else none
def file_New.R : (Int) ⊕ (Nat × Nat × (List (Int × (Int × (Int × (Bool × (Bool × (ByteArray × Int)))))))) → Tm
  | .inl r => .tup [.one (.sc (.pointer none)), .one (.err (some r))]
  | .inr r => .tup [.one (.ptr 0 ⟨0, 0, 0, 0⟩), .one (.err none)]
def file_New.B (a0 : Int) : (Int) ⊕ (Nat × Nat × (List (Int × (Int × (Int × (Bool × (Bool × (ByteArray × Int)))))))) → List Box
  | .inl r => []
  | .inr r => [.ex false [.c (.os 1 0 0 7 r.1 none)] 72, .ex false [.row r.2.1 (.pair (.int .i64) (.pair (.int .i64) (.pair (.int .i64) (.pair .bool (.pair .bool (.pair .str (.int .i64))))))) r.2.2] 30]
theorem file_New.fun_ {a0 : Int} {r : (Int) ⊕ (Nat × Nat × (List (Int × (Int × (Int × (Bool × (Bool × (ByteArray × Int))))))))} (h : file_New.f a0 = some r) : Fun cfg 10 [.one (.sc (.int .i64 a0))] [] (file_New.R r) (file_New.B a0 r) := by
  unfold file_New.f at h
  refine fun_of_run cfg_ok (f := 10) (fn := Tryd.f10) Tryd.func10 rfl (by kernel_rfl) (rs := [.tmp 2, .tmp 3]) rfl (nt := 15) rfl (l := fin) (k := (.br (.one true (.one true (.one true (.adj [] (.adj [] (.adj [] .nil)))))) (.one false (.one false (.br (.adj [] (.adj [] (.adj [] .nil))) (.d .no (.adj [] (.adj [.sel [1, 0], .nocap] .nil)))))))) (to_goal (q := (True) ∧ (((decide (a0 < (1 : Int))) = false → ((decide (a0 < (1 : Int))) = false ∧ (True) ∧ ((decide (a0 < (1 : Int))) = false ∧ (((decide (a0 > (32 : Int))) = true → (True ∧ (True ∧ ((True) ∧ (True) ∧ (.tup [.one (.sc (.pointer none)), .one (.err (some (22 : Int)))] : Tm) = file_New.R r ∧ ([] : List Box) = file_New.B a0 r)))) ∧ ((decide (a0 > (32 : Int))) = false → (0 ≤ a0 ∧ a0 = a0 ∧ (56 : Int) * a0 ≤ 281474976710656 ∧ a0 ≤ 9223372036854775807) ∧ (True ∧ ((True) ∧ ((True) ∧ (True) ∧ True) ∧ (.tup [.one (.ptr 0 ⟨0, 0, 0, 0⟩), .one (.err none)] : Tm) = file_New.R r ∧ ([.ex false [.c (.os 1 0 0 7 (Int.toNat a0) none)] 72, .ex false [.row (Int.toNat a0) (.pair (.int .i64) (.pair (.int .i64) (.pair (.int .i64) (.pair .bool (.pair .bool (.pair .str (.int .i64))))))) (List.replicate (Int.toNat a0) ((0 : Int), ((0 : Int), ((0 : Int), (false, (false, (ByteArray.empty, (0 : Int))))))))] 30] : List Box) = file_New.B a0 r))))))) ∧ ((decide (a0 < (1 : Int))) = true → ((decide (a0 < (1 : Int))) = true ∧ ((decide (a0 < (1 : Int))) = true ∧ (true = true ∧ (True ∧ (True ∧ ((True) ∧ (True) ∧ (.tup [.one (.sc (.pointer none)), .one (.err (some (22 : Int)))] : Tm) = file_New.R r ∧ ([] : List Box) = file_New.B a0 r))))))))) (by kernel_rfl) ?_)
  refine ⟨trivial, ?_⟩
  refine ⟨fun b1 => ?_, fun b1 => ?_⟩
  · rw [if_neg (of_decide_eq_false b1)] at h
    refine ⟨b1, ?_⟩
    refine ⟨trivial, ?_⟩
    refine ⟨b1, ?_⟩
    refine ⟨fun b2 => ?_, fun b2 => ?_⟩
    · rw [if_pos (of_decide_eq_true b2)] at h
      refine ⟨trivial, ?_⟩
      refine ⟨trivial, ?_⟩
      obtain rfl := Option.some.inj h
      exact ⟨trivial, trivial, rfl, rfl⟩
    · rw [if_neg (of_decide_eq_false b2)] at h
      obtain ⟨g3, h⟩ := of_guard h
      refine ⟨g3, ?_⟩
      refine ⟨trivial, ?_⟩
      obtain rfl := Option.some.inj h
      exact ⟨trivial, ⟨trivial, trivial, trivial⟩, rfl, rfl⟩
  · rw [if_pos (of_decide_eq_true b1)] at h
    refine ⟨b1, ?_⟩
    refine ⟨b1, ?_⟩
    refine ⟨rfl, ?_⟩
    refine ⟨trivial, ?_⟩
    refine ⟨trivial, ?_⟩
    obtain rfl := Option.some.inj h
    exact ⟨trivial, trivial, rfl, rfl⟩
/-! (halter/file.File).may -/
def file_File_may.f (a0 : Int) (a1 : Int) (a2 : Int) (a3 : Bool) (a4 : Bool) (a5 : ByteArray) (a6 : Int) : Option Bool :=
  if a0 ≥ (0 : Int) then
    if a0 ≤ (3 : Int) then
      if a1 ≥ (0 : Int) then
        if a1 ≤ (1073741824 : Int) then
          if a2 ≥ (0 : Int) then
            if a2 ≤ (1073741824 : Int) then
              some (decide (((ByteArray.size a5 : Nat) : Int) ≤ (256 : Int)))
            else
              some false
          else
            some false
        else
          some false
      else
        some false
    else
      some false
  else
    some false
def file_File_may.R (r : Bool) : Tm := .v (.one (.sc (.bool r)))
theorem file_File_may.fun_ {a0 : Int} {a1 : Int} {a2 : Int} {a3 : Bool} {a4 : Bool} {a5 : ByteArray} {a6 : Int} {r : Bool} (h : file_File_may.f a0 a1 a2 a3 a4 a5 a6 = some r) : Fun cfg 22 [.agg [.c (.sc (.int .i64 a0)), .c (.sc (.int .i64 a1)), .c (.sc (.int .i64 a2)), .c (.sc (.bool a3)), .c (.sc (.bool a4)), .c (.sc (.string a5)), .c (.sc (.int .i64 a6))]] [] (file_File_may.R r) [] := by
  unfold file_File_may.f at h
  refine fun_of_run cfg_ok (f := 22) (fn := Tryd.f22) Tryd.func22 rfl (by kernel_rfl) (rs := [.tmp 2]) rfl (nt := 37) rfl (l := fin) (k := (.br (.one true (.one true (.one true (.br (.one true (.one true (.one true (.br (.one true (.one true (.one true (.br (.one true (.one true (.one true (.br (.one true (.one true (.one true (.br (.one true (.one true (.one true (.one true (.adj [] (.adj [.drop 0] .nil)))))) (.one false (.one false (.one false (.one false (.adj [] (.adj [.drop 0] .nil)))))))))) (.one false (.one false (.one false (.one false (.one false (.one false (.one false (.one false (.adj [] (.adj [.drop 0] .nil)))))))))))))) (.one false (.one false (.one false (.one false (.one false (.one false (.one false (.one false (.one false (.one false (.one false (.one false (.adj [] (.adj [.drop 0] .nil)))))))))))))))))) (.one false (.one false (.one false (.one false (.one false (.one false (.one false (.one false (.one false (.one false (.one false (.one false (.one false (.one false (.one false (.one false (.adj [] (.adj [.drop 0] .nil)))))))))))))))))))))) (.one false (.one false (.one false (.one false (.one false (.one false (.one false (.one false (.one false (.one false (.one false (.one false (.one false (.one false (.one false (.one false (.one false (.one false (.one false (.one false (.adj [] (.adj [.drop 0] .nil)))))))))))))))))))))))))) (.one false (.one false (.one false (.one false (.one false (.one false (.one false (.one false (.one false (.one false (.one false (.one false (.one false (.one false (.one false (.one false (.one false (.one false (.one false (.one false (.one false (.one false (.one false (.one false (.adj [] (.adj [.drop 0] .nil)))))))))))))))))))))))))))) (to_goal (q := (True) ∧ (True) ∧ (((decide (a0 ≥ (0 : Int))) = true → ((decide (a0 ≥ (0 : Int))) = true ∧ (True) ∧ ((decide (a0 ≥ (0 : Int))) = true ∧ (True) ∧ ((decide (a0 ≥ (0 : Int))) = true ∧ (((decide (a0 ≤ (3 : Int))) = true → ((decide (a0 ≤ (3 : Int))) = true ∧ (True) ∧ ((decide (a0 ≤ (3 : Int))) = true ∧ (True) ∧ ((decide (a0 ≤ (3 : Int))) = true ∧ (((decide (a1 ≥ (0 : Int))) = true → ((decide (a1 ≥ (0 : Int))) = true ∧ (True) ∧ ((decide (a1 ≥ (0 : Int))) = true ∧ (True) ∧ ((decide (a1 ≥ (0 : Int))) = true ∧ (((decide (a1 ≤ (1073741824 : Int))) = true → ((decide (a1 ≤ (1073741824 : Int))) = true ∧ (True) ∧ ((decide (a1 ≤ (1073741824 : Int))) = true ∧ (True) ∧ ((decide (a1 ≤ (1073741824 : Int))) = true ∧ (((decide (a2 ≥ (0 : Int))) = true → ((decide (a2 ≥ (0 : Int))) = true ∧ (True) ∧ ((decide (a2 ≥ (0 : Int))) = true ∧ (True) ∧ ((decide (a2 ≥ (0 : Int))) = true ∧ (((decide (a2 ≤ (1073741824 : Int))) = true → ((decide (a2 ≤ (1073741824 : Int))) = true ∧ (True) ∧ ((decide (a2 ≤ (1073741824 : Int))) = true ∧ (True) ∧ ((decide (a2 ≤ (1073741824 : Int))) = true ∧ (True) ∧ ((decide (a2 ≤ (1073741824 : Int))) = true ∧ (True ∧ ((True) ∧ ((True) ∧ True) ∧ (.v (.one (.sc (.bool (decide (((ByteArray.size a5 : Nat) : Int) ≤ (256 : Int)))))) : Tm) = file_File_may.R r ∧ ([] : List Box) = []))))))) ∧ ((decide (a2 ≤ (1073741824 : Int))) = false → ((decide (a2 ≤ (1073741824 : Int))) = false ∧ ((decide (a2 ≤ (1073741824 : Int))) = false ∧ ((decide (a2 ≤ (1073741824 : Int))) = false ∧ ((decide (a2 ≤ (1073741824 : Int))) = false ∧ (True ∧ ((True) ∧ ((True) ∧ True) ∧ (.v (.one (.sc (.bool false))) : Tm) = file_File_may.R r ∧ ([] : List Box) = [])))))))))))) ∧ ((decide (a2 ≥ (0 : Int))) = false → ((decide (a2 ≥ (0 : Int))) = false ∧ ((decide (a2 ≥ (0 : Int))) = false ∧ ((decide (a2 ≥ (0 : Int))) = false ∧ (false = false ∧ (false = false ∧ (false = false ∧ (false = false ∧ (false = false ∧ (True ∧ ((True) ∧ ((True) ∧ True) ∧ (.v (.one (.sc (.bool false))) : Tm) = file_File_may.R r ∧ ([] : List Box) = [])))))))))))))))) ∧ ((decide (a1 ≤ (1073741824 : Int))) = false → ((decide (a1 ≤ (1073741824 : Int))) = false ∧ ((decide (a1 ≤ (1073741824 : Int))) = false ∧ ((decide (a1 ≤ (1073741824 : Int))) = false ∧ (false = false ∧ (false = false ∧ (false = false ∧ (false = false ∧ (false = false ∧ (false = false ∧ (false = false ∧ (false = false ∧ (false = false ∧ (True ∧ ((True) ∧ ((True) ∧ True) ∧ (.v (.one (.sc (.bool false))) : Tm) = file_File_may.R r ∧ ([] : List Box) = [])))))))))))))))))))) ∧ ((decide (a1 ≥ (0 : Int))) = false → ((decide (a1 ≥ (0 : Int))) = false ∧ ((decide (a1 ≥ (0 : Int))) = false ∧ ((decide (a1 ≥ (0 : Int))) = false ∧ (false = false ∧ (false = false ∧ (false = false ∧ (false = false ∧ (false = false ∧ (false = false ∧ (false = false ∧ (false = false ∧ (false = false ∧ (false = false ∧ (false = false ∧ (false = false ∧ (false = false ∧ (True ∧ ((True) ∧ ((True) ∧ True) ∧ (.v (.one (.sc (.bool false))) : Tm) = file_File_may.R r ∧ ([] : List Box) = [])))))))))))))))))))))))) ∧ ((decide (a0 ≤ (3 : Int))) = false → ((decide (a0 ≤ (3 : Int))) = false ∧ ((decide (a0 ≤ (3 : Int))) = false ∧ ((decide (a0 ≤ (3 : Int))) = false ∧ (false = false ∧ (false = false ∧ (false = false ∧ (false = false ∧ (false = false ∧ (false = false ∧ (false = false ∧ (false = false ∧ (false = false ∧ (false = false ∧ (false = false ∧ (false = false ∧ (false = false ∧ (false = false ∧ (false = false ∧ (false = false ∧ (false = false ∧ (True ∧ ((True) ∧ ((True) ∧ True) ∧ (.v (.one (.sc (.bool false))) : Tm) = file_File_may.R r ∧ ([] : List Box) = [])))))))))))))))))))))))))))) ∧ ((decide (a0 ≥ (0 : Int))) = false → ((decide (a0 ≥ (0 : Int))) = false ∧ ((decide (a0 ≥ (0 : Int))) = false ∧ ((decide (a0 ≥ (0 : Int))) = false ∧ (false = false ∧ (false = false ∧ (false = false ∧ (false = false ∧ (false = false ∧ (false = false ∧ (false = false ∧ (false = false ∧ (false = false ∧ (false = false ∧ (false = false ∧ (false = false ∧ (false = false ∧ (false = false ∧ (false = false ∧ (false = false ∧ (false = false ∧ (false = false ∧ (false = false ∧ (false = false ∧ (false = false ∧ (True ∧ ((True) ∧ ((True) ∧ True) ∧ (.v (.one (.sc (.bool false))) : Tm) = file_File_may.R r ∧ ([] : List Box) = []))))))))))))))))))))))))))))) (by kernel_rfl) ?_)
  refine ⟨trivial, ?_⟩
  refine ⟨trivial, ?_⟩
  refine ⟨fun b1 => ?_, fun b1 => ?_⟩
  · rw [if_pos (of_decide_eq_true b1)] at h
    refine ⟨b1, ?_⟩
    refine ⟨trivial, ?_⟩
    refine ⟨b1, ?_⟩
    refine ⟨trivial, ?_⟩
    refine ⟨b1, ?_⟩
    refine ⟨fun b2 => ?_, fun b2 => ?_⟩
    · rw [if_pos (of_decide_eq_true b2)] at h
      refine ⟨b2, ?_⟩
      refine ⟨trivial, ?_⟩
      refine ⟨b2, ?_⟩
      refine ⟨trivial, ?_⟩
      refine ⟨b2, ?_⟩
      refine ⟨fun b3 => ?_, fun b3 => ?_⟩
      · rw [if_pos (of_decide_eq_true b3)] at h
        refine ⟨b3, ?_⟩
        refine ⟨trivial, ?_⟩
        refine ⟨b3, ?_⟩
        refine ⟨trivial, ?_⟩
        refine ⟨b3, ?_⟩
        refine ⟨fun b4 => ?_, fun b4 => ?_⟩
        · rw [if_pos (of_decide_eq_true b4)] at h
          refine ⟨b4, ?_⟩
          refine ⟨trivial, ?_⟩
          refine ⟨b4, ?_⟩
          refine ⟨trivial, ?_⟩
          refine ⟨b4, ?_⟩
          refine ⟨fun b5 => ?_, fun b5 => ?_⟩
          · rw [if_pos (of_decide_eq_true b5)] at h
            refine ⟨b5, ?_⟩
            refine ⟨trivial, ?_⟩
            refine ⟨b5, ?_⟩
            refine ⟨trivial, ?_⟩
            refine ⟨b5, ?_⟩
            refine ⟨fun b6 => ?_, fun b6 => ?_⟩
            · rw [if_pos (of_decide_eq_true b6)] at h
              refine ⟨b6, ?_⟩
              refine ⟨trivial, ?_⟩
              refine ⟨b6, ?_⟩
              refine ⟨trivial, ?_⟩
              refine ⟨b6, ?_⟩
              refine ⟨trivial, ?_⟩
              refine ⟨b6, ?_⟩
              refine ⟨trivial, ?_⟩
              obtain rfl := Option.some.inj h
              exact ⟨trivial, ⟨trivial, trivial⟩, rfl, rfl⟩
            · rw [if_neg (of_decide_eq_false b6)] at h
              refine ⟨b6, ?_⟩
              refine ⟨b6, ?_⟩
              refine ⟨b6, ?_⟩
              refine ⟨b6, ?_⟩
              refine ⟨trivial, ?_⟩
              obtain rfl := Option.some.inj h
              exact ⟨trivial, ⟨trivial, trivial⟩, rfl, rfl⟩
          · rw [if_neg (of_decide_eq_false b5)] at h
            refine ⟨b5, ?_⟩
            refine ⟨b5, ?_⟩
            refine ⟨b5, ?_⟩
            refine ⟨rfl, ?_⟩
            refine ⟨rfl, ?_⟩
            refine ⟨rfl, ?_⟩
            refine ⟨rfl, ?_⟩
            refine ⟨rfl, ?_⟩
            refine ⟨trivial, ?_⟩
            obtain rfl := Option.some.inj h
            exact ⟨trivial, ⟨trivial, trivial⟩, rfl, rfl⟩
        · rw [if_neg (of_decide_eq_false b4)] at h
          refine ⟨b4, ?_⟩
          refine ⟨b4, ?_⟩
          refine ⟨b4, ?_⟩
          refine ⟨rfl, ?_⟩
          refine ⟨rfl, ?_⟩
          refine ⟨rfl, ?_⟩
          refine ⟨rfl, ?_⟩
          refine ⟨rfl, ?_⟩
          refine ⟨rfl, ?_⟩
          refine ⟨rfl, ?_⟩
          refine ⟨rfl, ?_⟩
          refine ⟨rfl, ?_⟩
          refine ⟨trivial, ?_⟩
          obtain rfl := Option.some.inj h
          exact ⟨trivial, ⟨trivial, trivial⟩, rfl, rfl⟩
      · rw [if_neg (of_decide_eq_false b3)] at h
        refine ⟨b3, ?_⟩
        refine ⟨b3, ?_⟩
        refine ⟨b3, ?_⟩
        refine ⟨rfl, ?_⟩
        refine ⟨rfl, ?_⟩
        refine ⟨rfl, ?_⟩
        refine ⟨rfl, ?_⟩
        refine ⟨rfl, ?_⟩
        refine ⟨rfl, ?_⟩
        refine ⟨rfl, ?_⟩
        refine ⟨rfl, ?_⟩
        refine ⟨rfl, ?_⟩
        refine ⟨rfl, ?_⟩
        refine ⟨rfl, ?_⟩
        refine ⟨rfl, ?_⟩
        refine ⟨rfl, ?_⟩
        refine ⟨trivial, ?_⟩
        obtain rfl := Option.some.inj h
        exact ⟨trivial, ⟨trivial, trivial⟩, rfl, rfl⟩
    · rw [if_neg (of_decide_eq_false b2)] at h
      refine ⟨b2, ?_⟩
      refine ⟨b2, ?_⟩
      refine ⟨b2, ?_⟩
      refine ⟨rfl, ?_⟩
      refine ⟨rfl, ?_⟩
      refine ⟨rfl, ?_⟩
      refine ⟨rfl, ?_⟩
      refine ⟨rfl, ?_⟩
      refine ⟨rfl, ?_⟩
      refine ⟨rfl, ?_⟩
      refine ⟨rfl, ?_⟩
      refine ⟨rfl, ?_⟩
      refine ⟨rfl, ?_⟩
      refine ⟨rfl, ?_⟩
      refine ⟨rfl, ?_⟩
      refine ⟨rfl, ?_⟩
      refine ⟨rfl, ?_⟩
      refine ⟨rfl, ?_⟩
      refine ⟨rfl, ?_⟩
      refine ⟨rfl, ?_⟩
      refine ⟨trivial, ?_⟩
      obtain rfl := Option.some.inj h
      exact ⟨trivial, ⟨trivial, trivial⟩, rfl, rfl⟩
  · rw [if_neg (of_decide_eq_false b1)] at h
    refine ⟨b1, ?_⟩
    refine ⟨b1, ?_⟩
    refine ⟨b1, ?_⟩
    refine ⟨rfl, ?_⟩
    refine ⟨rfl, ?_⟩
    refine ⟨rfl, ?_⟩
    refine ⟨rfl, ?_⟩
    refine ⟨rfl, ?_⟩
    refine ⟨rfl, ?_⟩
    refine ⟨rfl, ?_⟩
    refine ⟨rfl, ?_⟩
    refine ⟨rfl, ?_⟩
    refine ⟨rfl, ?_⟩
    refine ⟨rfl, ?_⟩
    refine ⟨rfl, ?_⟩
    refine ⟨rfl, ?_⟩
    refine ⟨rfl, ?_⟩
    refine ⟨rfl, ?_⟩
    refine ⟨rfl, ?_⟩
    refine ⟨rfl, ?_⟩
    refine ⟨rfl, ?_⟩
    refine ⟨rfl, ?_⟩
    refine ⟨rfl, ?_⟩
    refine ⟨rfl, ?_⟩
    refine ⟨trivial, ?_⟩
    obtain rfl := Option.some.inj h
    exact ⟨trivial, ⟨trivial, trivial⟩, rfl, rfl⟩
/-! (*halter/file.Table).Open -/
def file_Table_Open_v1.l0 (a0 : Int) (a1 : Int) (a2 : Int) (a3 : Bool) (a4 : Bool) (a5 : ByteArray) (a6 : Int) (a7 : Nat) (a8 : Nat) (a9 : (List (Int × (Int × (Int × (Bool × (Bool × (ByteArray × Int)))))))) : Nat → Int → Option ((Unit) ⊕ ((List (Int × (Int × (Int × (Bool × (Bool × (ByteArray × Int))))))) × Int))
  | 0, _ => none
  | n + 1, x3 =>
    if x3 < ((a7 : Nat) : Int) then
      if 0 ≤ x3 ∧ x3 < ((a7 : Nat) : Int) then
        if (0 + (Int.toNat x3)) < a8 then
          if (List.getD a9 (0 + (Int.toNat x3)) ((0 : Int), ((0 : Int), ((0 : Int), (false, (false, (ByteArray.empty, (0 : Int)))))))).2.2.2.2.2.2 = (0 : Int) then
            if 0 ≤ x3 ∧ x3 < ((a7 : Nat) : Int) then
              if (0 + (Int.toNat x3)) < a8 then
                some (.inr ((List.set a9 (0 + (Int.toNat x3)) (a0, (a1, (a2, (a3, (a4, (a5, (1 : Int)))))))), x3))
              else none
            else none
          else
            file_Table_Open_v1.l0 a0 a1 a2 a3 a4 a5 a6 a7 a8 a9 n (IntKind.wrap .i64 (x3 + (1 : Int)))
        else none
      else none
    else
      some (.inl ())
def file_Table_Open_v1.l0_S (a0 : Int) (a1 : Int) (a2 : Int) (a3 : Bool) (a4 : Bool) (a5 : ByteArray) (a6 : Int) (a7 : Nat) (a8 : Nat) (a9 : (List (Int × (Int × (Int × (Bool × (Bool × (ByteArray × Int)))))))) (x3 : Int) : St := ⟨[.v (.one (.ptr 0 ⟨0, 0, 0, 0⟩)), .any, .any, .v (.one (.ptr 2 ⟨0, 0, 0, 0⟩)), .any, .any, .any, .any, .any, .any, .any, .any, .any, .any, .any, .any, .any, .any, .any, .v (.one (.sc (.int .i64 ((a7 : Nat) : Int)))), .v (.one (.sc (.int .i64 x3))), .any, .any, .any, .any, .any, .any, .any, .any, .any, .any, .any, .any, .any, .any, .any, .any, .any, .any, .any, .any, .any, .any], [.ex false [.c (.os 1 0 0 7 a7 none)] 72, .ex false [.row a8 (.pair (.int .i64) (.pair (.int .i64) (.pair (.int .i64) (.pair .bool (.pair .bool (.pair .str (.int .i64))))))) a9] 30, .ex false [.c (.sc (.int .i64 a0)), .c (.sc (.int .i64 a1)), .c (.sc (.int .i64 a2)), .c (.sc (.bool a3)), .c (.sc (.bool a4)), .c (.sc (.string a5)), .c (.sc (.int .i64 a6))] 30], 2⟩
def file_Table_Open_v1.l0_Q (a0 : Int) (a1 : Int) (a2 : Int) (a3 : Bool) (a4 : Bool) (a5 : ByteArray) (a6 : Int) (a7 : Nat) (a8 : Nat) (a9 : (List (Int × (Int × (Int × (Bool × (Bool × (ByteArray × Int)))))))) : (Unit) ⊕ ((List (Int × (Int × (Int × (Bool × (Bool × (ByteArray × Int))))))) × Int) → Exit → St → Prop
  | .inl t => fun e s => e = (.exit 0) ∧ s = ⟨[.any, .any, .any, .any, .any, .any, .any, .any, .any, .any, .any, .any, .any, .any, .any, .any, .any, .any, .any, .any, .any, .any, .any, .any, .any, .any, .any, .any, .any, .any, .any, .any, .any, .any, .any, .any, .any, .any, .any, .any, .any, .any, .any], [.ex false [.c (.os 1 0 0 7 a7 none)] 72, .ex false [.row a8 (.pair (.int .i64) (.pair (.int .i64) (.pair (.int .i64) (.pair .bool (.pair .bool (.pair .str (.int .i64))))))) a9] 30, .ex false [.c (.sc (.int .i64 a0)), .c (.sc (.int .i64 a1)), .c (.sc (.int .i64 a2)), .c (.sc (.bool a3)), .c (.sc (.bool a4)), .c (.sc (.string a5)), .c (.sc (.int .i64 a6))] 30], 2⟩
  | .inr t => fun e s => e = .ret ∧ s = ⟨[.any, .any, .any, .any, .v (.one (.sc (.int .i64 t.2))), .v (.one (.err none)), .any, .any, .any, .any, .any, .any, .any, .any, .any, .any, .any, .any, .any, .any, .any, .any, .any, .any, .any, .any, .any, .any, .any, .any, .any, .any, .any, .any, .any, .any, .any, .any, .any, .any, .any, .any, .any], [.ex false [.c (.os 1 0 0 7 a7 none)] 72, .ex false [.row a8 (.pair (.int .i64) (.pair (.int .i64) (.pair (.int .i64) (.pair .bool (.pair .bool (.pair .str (.int .i64))))))) t.1] 30, .ex false [.c (.sc (.int .i64 a0)), .c (.sc (.int .i64 a1)), .c (.sc (.int .i64 a2)), .c (.sc (.bool a3)), .c (.sc (.bool a4)), .c (.sc (.string a5)), .c (.sc (.int .i64 (1 : Int)))] 30], 2⟩
theorem file_Table_Open_v1.l0_ok (a0 : Int) (a1 : Int) (a2 : Int) (a3 : Bool) (a4 : Bool) (a5 : ByteArray) (a6 : Int) (a7 : Nat) (a8 : Nat) (a9 : (List (Int × (Int × (Int × (Bool × (Bool × (ByteArray × Int)))))))) : ∀ (n : Nat) (x3 : Int) (r : (Unit) ⊕ ((List (Int × (Int × (Int × (Bool × (Bool × (ByteArray × Int))))))) × Int)), file_Table_Open_v1.l0 a0 a1 a2 a3 a4 a5 a6 a7 a8 a9 n x3 = some r → TripN cfg (cpath (Tryd.f11.body.getD .skip) [1, 1, 0, 1, 0, 0]) n (file_Table_Open_v1.l0_S a0 a1 a2 a3 a4 a5 a6 a7 a8 a9 x3) (file_Table_Open_v1.l0_Q a0 a1 a2 a3 a4 a5 a6 a7 a8 a9 r) := by
  intro n
  induction n with
  | zero => intro x3 r h; cases h
  | succ n ih =>
    intro x3 r h
    rw [file_Table_Open_v1.l0] at h
    refine TripN.of_run cfg_ok (k := (.br (.br (.dr [(0, dN), (1, dN), (2, dN), (4, dN), (3, dN), (5, dN), (6, dN), (7, dN)] (.adj [] (.adj [.keep [4, 5], .drop 3] .nil))) (.adj [] (.adj [] (.adj [.keep [0, 3, 19, 20], .drop 3] .nil)))) (.adj [.keep [], .drop 3] .nil))) (to_goal (q := (True) ∧ (((decide (x3 < ((a7 : Nat) : Int))) = true → (True) ∧ (0 ≤ x3 ∧ x3 < ((a7 : Nat) : Int)) ∧ ((0 + (Int.toNat x3)) < a8) ∧ (True) ∧ ((((List.getD a9 (0 + (Int.toNat x3)) ((0 : Int), ((0 : Int), ((0 : Int), (false, (false, (ByteArray.empty, (0 : Int)))))))).2.2.2.2.2.2 == (0 : Int)) = true → (True) ∧ (True) ∧ (True) ∧ (0 ≤ x3 ∧ x3 < ((a7 : Nat) : Int)) ∧ ((0 + (Int.toNat x3)) < a8) ∧ (True ∧ (((True) ∧ (True) ∧ True) ∧ file_Table_Open_v1.l0_Q a0 a1 a2 a3 a4 a5 a6 a7 a8 a9 r .ret ⟨[.any, .any, .any, .any, .v (.one (.sc (.int .i64 x3))), .v (.one (.err none)), .any, .any, .any, .any, .any, .any, .any, .any, .any, .any, .any, .any, .any, .any, .any, .any, .any, .any, .any, .any, .any, .any, .any, .any, .any, .any, .any, .any, .any, .any, .any, .any, .any, .any, .any, .any, .any], [.ex false [.c (.os 1 0 0 7 a7 none)] 72, .ex false [.row a8 (.pair (.int .i64) (.pair (.int .i64) (.pair (.int .i64) (.pair .bool (.pair .bool (.pair .str (.int .i64))))))) (List.set a9 (0 + (Int.toNat x3)) (a0, (a1, (a2, (a3, (a4, (a5, (1 : Int))))))))] 30, .ex false [.c (.sc (.int .i64 a0)), .c (.sc (.int .i64 a1)), .c (.sc (.int .i64 a2)), .c (.sc (.bool a3)), .c (.sc (.bool a4)), .c (.sc (.string a5)), .c (.sc (.int .i64 (1 : Int)))] 30], 2⟩))) ∧ (((List.getD a9 (0 + (Int.toNat x3)) ((0 : Int), ((0 : Int), ((0 : Int), (false, (false, (ByteArray.empty, (0 : Int)))))))).2.2.2.2.2.2 == (0 : Int)) = false → (True ∧ (True ∧ (True) ∧ (((True) ∧ (True) ∧ True) ∧ TripN cfg (cpath (Tryd.f11.body.getD .skip) [1, 1, 0, 1, 0, 0]) n (file_Table_Open_v1.l0_S a0 a1 a2 a3 a4 a5 a6 a7 a8 a9 (IntKind.wrap .i64 (x3 + (1 : Int)))) (file_Table_Open_v1.l0_Q a0 a1 a2 a3 a4 a5 a6 a7 a8 a9 r))))))) ∧ ((decide (x3 < ((a7 : Nat) : Int))) = false → (((True) ∧ (True) ∧ True) ∧ file_Table_Open_v1.l0_Q a0 a1 a2 a3 a4 a5 a6 a7 a8 a9 r (.exit 0) ⟨[.any, .any, .any, .any, .any, .any, .any, .any, .any, .any, .any, .any, .any, .any, .any, .any, .any, .any, .any, .any, .any, .any, .any, .any, .any, .any, .any, .any, .any, .any, .any, .any, .any, .any, .any, .any, .any, .any, .any, .any, .any, .any, .any], [.ex false [.c (.os 1 0 0 7 a7 none)] 72, .ex false [.row a8 (.pair (.int .i64) (.pair (.int .i64) (.pair (.int .i64) (.pair .bool (.pair .bool (.pair .str (.int .i64))))))) a9] 30, .ex false [.c (.sc (.int .i64 a0)), .c (.sc (.int .i64 a1)), .c (.sc (.int .i64 a2)), .c (.sc (.bool a3)), .c (.sc (.bool a4)), .c (.sc (.string a5)), .c (.sc (.int .i64 a6))] 30], 2⟩)))) (by kernel_rfl) ?_)
    refine ⟨trivial, ?_⟩
    refine ⟨fun b13 => ?_, fun b13 => ?_⟩
    · rw [if_pos (of_decide_eq_true b13)] at h
      refine ⟨trivial, ?_⟩
      obtain ⟨g18, h⟩ := of_guard h
      refine ⟨g18, ?_⟩
      obtain ⟨g17, h⟩ := of_guard h
      refine ⟨g17, ?_⟩
      refine ⟨trivial, ?_⟩
      refine ⟨fun b14 => ?_, fun b14 => ?_⟩
      · rw [if_pos (beq_t b14)] at h
        refine ⟨trivial, ?_⟩
        obtain ⟨g15, h⟩ := of_guard h
        obtain ⟨g16, h⟩ := of_guard h
        refine ⟨trivial, trivial, g15, g16, ?_⟩
        refine ⟨trivial, ?_⟩
        obtain rfl := Option.some.inj h
        exact ⟨⟨trivial, trivial, trivial⟩, rfl, rfl⟩
      · rw [if_neg (beq_f b14)] at h
        refine ⟨trivial, ?_⟩
        refine ⟨trivial, ?_⟩
        refine ⟨trivial, ?_⟩
        exact ⟨⟨trivial, trivial, trivial⟩, ih (IntKind.wrap .i64 (x3 + (1 : Int))) r h⟩
    · rw [if_neg (of_decide_eq_false b13)] at h
      obtain rfl := Option.some.inj h
      exact ⟨⟨trivial, trivial, trivial⟩, rfl, rfl⟩
def file_Table_Open_v1.f (a0 : Int) (a1 : Int) (a2 : Int) (a3 : Bool) (a4 : Bool) (a5 : ByteArray) (a6 : Int) (a7 : Nat) (a8 : Nat) (a9 : (List (Int × (Int × (Int × (Bool × (Bool × (ByteArray × Int)))))))) : Option (Int × (Option Int) × (List (Int × (Int × (Int × (Bool × (Bool × (ByteArray × Int)))))))) :=
  (file_File_may.f a0 a1 a2 a3 a4 a5 a6).bind fun t1 =>
  if ¬ (t1 = true) then
    some ((0 : Int), (some (22 : Int)), a9)
  else
    (file_Table_Open_v1.l0 a0 a1 a2 a3 a4 a5 a6 a7 a8 a9 FUEL (0 : Int)).bind fun t12 =>
    match t12 with
    | .inl t21 =>
      some ((0 : Int), (some (23 : Int)), a9)
    | .inr t22 =>
      some (t22.2, none, t22.1)
def file_Table_Open_v1.R (r : Int × (Option Int) × (List (Int × (Int × (Int × (Bool × (Bool × (ByteArray × Int)))))))) : Tm := .tup [.one (.sc (.int .i64 r.1)), .one (.err r.2.1)]
def file_Table_Open_v1.B (a0 : Int) (a1 : Int) (a2 : Int) (a3 : Bool) (a4 : Bool) (a5 : ByteArray) (a6 : Int) (a7 : Nat) (a8 : Nat) (a9 : (List (Int × (Int × (Int × (Bool × (Bool × (ByteArray × Int)))))))) (r : Int × (Option Int) × (List (Int × (Int × (Int × (Bool × (Bool × (ByteArray × Int)))))))) : List Box := [.ex false [.c (.os 1 0 0 7 a7 none)] 72, .ex false [.row a8 (.pair (.int .i64) (.pair (.int .i64) (.pair (.int .i64) (.pair .bool (.pair .bool (.pair .str (.int .i64))))))) r.2.2] 30]
theorem file_Table_Open_v1.fun_ {a0 : Int} {a1 : Int} {a2 : Int} {a3 : Bool} {a4 : Bool} {a5 : ByteArray} {a6 : Int} {a7 : Nat} {a8 : Nat} {a9 : (List (Int × (Int × (Int × (Bool × (Bool × (ByteArray × Int)))))))} {r : Int × (Option Int) × (List (Int × (Int × (Int × (Bool × (Bool × (ByteArray × Int)))))))} (h : file_Table_Open_v1.f a0 a1 a2 a3 a4 a5 a6 a7 a8 a9 = some r) : Fun cfg 11 [.one (.ptr 0 ⟨0, 0, 0, 0⟩), .agg [.c (.sc (.int .i64 a0)), .c (.sc (.int .i64 a1)), .c (.sc (.int .i64 a2)), .c (.sc (.bool a3)), .c (.sc (.bool a4)), .c (.sc (.string a5)), .c (.sc (.int .i64 a6))]] [.ex false [.c (.os 1 0 0 7 a7 none)] 72, .ex false [.row a8 (.pair (.int .i64) (.pair (.int .i64) (.pair (.int .i64) (.pair .bool (.pair .bool (.pair .str (.int .i64))))))) a9] 30] (file_Table_Open_v1.R r) (file_Table_Open_v1.B a0 a1 a2 a3 a4 a5 a6 a7 a8 a9 r) := by
  unfold file_Table_Open_v1.f at h
  refine fun_of_run cfg_ok (f := 11) (fn := Tryd.f11) Tryd.func11 rfl (by kernel_rfl) (rs := [.tmp 4, .tmp 5]) rfl (nt := 43) rfl (l := fin) (k := (.one false (.one false (.call true [] (Bool) (fun t1 => file_File_may.R t1) (fun t1 => (.one false (.one false (.br (.adj [] (.adj [] (.adj [.drop 2] .nil))) (.adj [] (.adj [] (.adj [] (.adj [.keep [0, 3, 19, 20]] (.alt (.sub (Unit) (fun _ => (.exit 0)) (fun t21 => ⟨[.any, .any, .any, .any, .any, .any, .any, .any, .any, .any, .any, .any, .any, .any, .any, .any, .any, .any, .any, .any, .any, .any, .any, .any, .any, .any, .any, .any, .any, .any, .any, .any, .any, .any, .any, .any, .any, .any, .any, .any, .any, .any, .any], [.ex false [.c (.os 1 0 0 7 a7 none)] 72, .ex false [.row a8 (.pair (.int .i64) (.pair (.int .i64) (.pair (.int .i64) (.pair .bool (.pair .bool (.pair .str (.int .i64))))))) a9] 30, .ex false [.c (.sc (.int .i64 a0)), .c (.sc (.int .i64 a1)), .c (.sc (.int .i64 a2)), .c (.sc (.bool a3)), .c (.sc (.bool a4)), .c (.sc (.string a5)), .c (.sc (.int .i64 a6))] 30], 2⟩) (fun t21 => (.adj [] (.adj [] (.adj [.drop 2] .nil))))) (.sub ((List (Int × (Int × (Int × (Bool × (Bool × (ByteArray × Int))))))) × Int) (fun _ => .ret) (fun t22 => ⟨[.any, .any, .any, .any, .v (.one (.sc (.int .i64 t22.2))), .v (.one (.err none)), .any, .any, .any, .any, .any, .any, .any, .any, .any, .any, .any, .any, .any, .any, .any, .any, .any, .any, .any, .any, .any, .any, .any, .any, .any, .any, .any, .any, .any, .any, .any, .any, .any, .any, .any, .any, .any], [.ex false [.c (.os 1 0 0 7 a7 none)] 72, .ex false [.row a8 (.pair (.int .i64) (.pair (.int .i64) (.pair (.int .i64) (.pair .bool (.pair .bool (.pair .str (.int .i64))))))) t22.1] 30, .ex false [.c (.sc (.int .i64 a0)), .c (.sc (.int .i64 a1)), .c (.sc (.int .i64 a2)), .c (.sc (.bool a3)), .c (.sc (.bool a4)), .c (.sc (.string a5)), .c (.sc (.int .i64 (1 : Int)))] 30], 2⟩) (fun t22 => (.adj [.drop 2] .nil)))))))))))))))) (to_goal (q := (True) ∧ (false = false ∧ (True) ∧ (false = false ∧ (∃ t1 : Bool, (Fun cfg 22 [.agg [.c (.sc (.int .i64 a0)), .c (.sc (.int .i64 a1)), .c (.sc (.int .i64 a2)), .c (.sc (.bool a3)), .c (.sc (.bool a4)), .c (.sc (.string a5)), .c (.sc (.int .i64 a6))]] [] (file_File_may.R t1) [] ∧ True) ∧ (false = false ∧ (false = false ∧ (((!t1) = true → (True ∧ (True ∧ ((True) ∧ ((True) ∧ True) ∧ (.tup [.one (.sc (.int .i64 (0 : Int))), .one (.err (some (22 : Int)))] : Tm) = file_Table_Open_v1.R r ∧ ([.ex false [.c (.os 1 0 0 7 a7 none)] 72, .ex false [.row a8 (.pair (.int .i64) (.pair (.int .i64) (.pair (.int .i64) (.pair .bool (.pair .bool (.pair .str (.int .i64))))))) a9] 30] : List Box) = file_Table_Open_v1.B a0 a1 a2 a3 a4 a5 a6 a7 a8 a9 r)))) ∧ ((!t1) = false → (True ∧ (True ∧ (True) ∧ (True) ∧ (True ∧ (((True) ∧ True) ∧ ((∃ t21 : Unit, Trip cfg (.loop (cpath (Tryd.f11.body.getD .skip) [1, 1, 0, 1, 0, 0])) ⟨[.v (.one (.ptr 0 ⟨0, 0, 0, 0⟩)), .any, .any, .v (.one (.ptr 2 ⟨0, 0, 0, 0⟩)), .any, .any, .any, .any, .any, .any, .any, .any, .any, .any, .any, .any, .any, .any, .any, .v (.one (.sc (.int .i64 ((a7 : Nat) : Int)))), .v (.one (.sc (.int .i64 (0 : Int)))), .any, .any, .any, .any, .any, .any, .any, .any, .any, .any, .any, .any, .any, .any, .any, .any, .any, .any, .any, .any, .any, .any], [.ex false [.c (.os 1 0 0 7 a7 none)] 72, .ex false [.row a8 (.pair (.int .i64) (.pair (.int .i64) (.pair (.int .i64) (.pair .bool (.pair .bool (.pair .str (.int .i64))))))) a9] 30, .ex false [.c (.sc (.int .i64 a0)), .c (.sc (.int .i64 a1)), .c (.sc (.int .i64 a2)), .c (.sc (.bool a3)), .c (.sc (.bool a4)), .c (.sc (.string a5)), .c (.sc (.int .i64 a6))] 30], 2⟩ (fun e s => e = (.exit 0) ∧ s = ⟨[.any, .any, .any, .any, .any, .any, .any, .any, .any, .any, .any, .any, .any, .any, .any, .any, .any, .any, .any, .any, .any, .any, .any, .any, .any, .any, .any, .any, .any, .any, .any, .any, .any, .any, .any, .any, .any, .any, .any, .any, .any, .any, .any], [.ex false [.c (.os 1 0 0 7 a7 none)] 72, .ex false [.row a8 (.pair (.int .i64) (.pair (.int .i64) (.pair (.int .i64) (.pair .bool (.pair .bool (.pair .str (.int .i64))))))) a9] 30, .ex false [.c (.sc (.int .i64 a0)), .c (.sc (.int .i64 a1)), .c (.sc (.int .i64 a2)), .c (.sc (.bool a3)), .c (.sc (.bool a4)), .c (.sc (.string a5)), .c (.sc (.int .i64 a6))] 30], 2⟩) ∧ (True ∧ (True ∧ ((True) ∧ ((True) ∧ True) ∧ (.tup [.one (.sc (.int .i64 (0 : Int))), .one (.err (some (23 : Int)))] : Tm) = file_Table_Open_v1.R r ∧ ([.ex false [.c (.os 1 0 0 7 a7 none)] 72, .ex false [.row a8 (.pair (.int .i64) (.pair (.int .i64) (.pair (.int .i64) (.pair .bool (.pair .bool (.pair .str (.int .i64))))))) a9] 30] : List Box) = file_Table_Open_v1.B a0 a1 a2 a3 a4 a5 a6 a7 a8 a9 r)))) ∨ (∃ t22 : (List (Int × (Int × (Int × (Bool × (Bool × (ByteArray × Int))))))) × Int, Trip cfg (.loop (cpath (Tryd.f11.body.getD .skip) [1, 1, 0, 1, 0, 0])) ⟨[.v (.one (.ptr 0 ⟨0, 0, 0, 0⟩)), .any, .any, .v (.one (.ptr 2 ⟨0, 0, 0, 0⟩)), .any, .any, .any, .any, .any, .any, .any, .any, .any, .any, .any, .any, .any, .any, .any, .v (.one (.sc (.int .i64 ((a7 : Nat) : Int)))), .v (.one (.sc (.int .i64 (0 : Int)))), .any, .any, .any, .any, .any, .any, .any, .any, .any, .any, .any, .any, .any, .any, .any, .any, .any, .any, .any, .any, .any, .any], [.ex false [.c (.os 1 0 0 7 a7 none)] 72, .ex false [.row a8 (.pair (.int .i64) (.pair (.int .i64) (.pair (.int .i64) (.pair .bool (.pair .bool (.pair .str (.int .i64))))))) a9] 30, .ex false [.c (.sc (.int .i64 a0)), .c (.sc (.int .i64 a1)), .c (.sc (.int .i64 a2)), .c (.sc (.bool a3)), .c (.sc (.bool a4)), .c (.sc (.string a5)), .c (.sc (.int .i64 a6))] 30], 2⟩ (fun e s => e = .ret ∧ s = ⟨[.any, .any, .any, .any, .v (.one (.sc (.int .i64 t22.2))), .v (.one (.err none)), .any, .any, .any, .any, .any, .any, .any, .any, .any, .any, .any, .any, .any, .any, .any, .any, .any, .any, .any, .any, .any, .any, .any, .any, .any, .any, .any, .any, .any, .any, .any, .any, .any, .any, .any, .any, .any], [.ex false [.c (.os 1 0 0 7 a7 none)] 72, .ex false [.row a8 (.pair (.int .i64) (.pair (.int .i64) (.pair (.int .i64) (.pair .bool (.pair .bool (.pair .str (.int .i64))))))) t22.1] 30, .ex false [.c (.sc (.int .i64 a0)), .c (.sc (.int .i64 a1)), .c (.sc (.int .i64 a2)), .c (.sc (.bool a3)), .c (.sc (.bool a4)), .c (.sc (.string a5)), .c (.sc (.int .i64 (1 : Int)))] 30], 2⟩) ∧ ((True) ∧ ((True) ∧ True) ∧ (.tup [.one (.sc (.int .i64 t22.2)), .one (.err none)] : Tm) = file_Table_Open_v1.R r ∧ ([.ex false [.c (.os 1 0 0 7 a7 none)] 72, .ex false [.row a8 (.pair (.int .i64) (.pair (.int .i64) (.pair (.int .i64) (.pair .bool (.pair .bool (.pair .str (.int .i64))))))) t22.1] 30] : List Box) = file_Table_Open_v1.B a0 a1 a2 a3 a4 a5 a6 a7 a8 a9 r))))))))))))))) (by kernel_rfl) ?_)
  refine ⟨trivial, ?_⟩
  refine ⟨rfl, ?_⟩
  refine ⟨trivial, ?_⟩
  refine ⟨rfl, ?_⟩
  obtain ⟨t1, ht1, h⟩ := of_bind h
  refine ⟨t1, ⟨file_File_may.fun_ ht1, trivial⟩, ?_⟩
  refine ⟨rfl, ?_⟩
  refine ⟨rfl, ?_⟩
  refine ⟨fun b2 => ?_, fun b2 => ?_⟩
  · rw [if_pos (ff (not_t b2))] at h
    refine ⟨trivial, ?_⟩
    refine ⟨trivial, ?_⟩
    obtain rfl := Option.some.inj h
    exact ⟨trivial, ⟨trivial, trivial⟩, rfl, rfl⟩
  · rw [if_neg (not_not_intro (not_f b2))] at h
    refine ⟨trivial, ?_⟩
    refine ⟨trivial, ?_⟩
    refine ⟨trivial, ?_⟩
    refine ⟨trivial, ?_⟩
    refine ⟨trivial, ?_⟩
    obtain ⟨t12, ht12, h⟩ := of_bind h
    refine ⟨⟨trivial, trivial⟩, ?_⟩
    rcases t12 with t21 | t22
    · dsimp only at h
      left
      refine ⟨t21, Trip.loop FUEL (file_Table_Open_v1.l0_ok a0 a1 a2 a3 a4 a5 a6 a7 a8 a9 FUEL (0 : Int) (.inl t21) ht12), ?_⟩
      refine ⟨trivial, ?_⟩
      refine ⟨trivial, ?_⟩
      obtain rfl := Option.some.inj h
      exact ⟨trivial, ⟨trivial, trivial⟩, rfl, rfl⟩
    · dsimp only at h
      right
      refine ⟨t22, Trip.loop FUEL (file_Table_Open_v1.l0_ok a0 a1 a2 a3 a4 a5 a6 a7 a8 a9 FUEL (0 : Int) (.inr t22) ht12), ?_⟩
      obtain rfl := Option.some.inj h
      exact ⟨trivial, ⟨trivial, trivial⟩, rfl, rfl⟩
/-! (*halter/file.Table).at -/
def file_Table_at_v1.f (a0 : Int) (a1 : Nat) (a2 : Nat) (a3 : (List (Int × (Int × (Int × (Bool × (Bool × (ByteArray × Int)))))))) : Option ((Int) ⊕ (Nat)) :=
  if a0 < (0 : Int) then
    some (.inl (9 : Int))
  else
    if a0 ≥ ((a1 : Nat) : Int) then
      some (.inl (9 : Int))
    else
      if 0 ≤ a0 ∧ a0 < ((a1 : Nat) : Int) then
        if (0 + (Int.toNat a0)) < a2 then
          if (List.getD a3 (0 + (Int.toNat a0)) ((0 : Int), ((0 : Int), ((0 : Int), (false, (false, (ByteArray.empty, (0 : Int)))))))).2.2.2.2.2.2 = (0 : Int) then
            some (.inl (9 : Int))
          else
            if 0 ≤ a0 ∧ a0 < ((a1 : Nat) : Int) then
              some (.inr (0 + (Int.toNat a0)))
            else none
        else none
      else none
def file_Table_at_v1.R : (Int) ⊕ (Nat) → Tm
  | .inl r => .tup [.one (.sc (.pointer none)), .one (.err (some r))]
  | .inr r => .tup [.one (.ptr 1 ⟨0, r, 7, 0⟩), .one (.err none)]
def file_Table_at_v1.B (a0 : Int) (a1 : Nat) (a2 : Nat) (a3 : (List (Int × (Int × (Int × (Bool × (Bool × (ByteArray × Int)))))))) : (Int) ⊕ (Nat) → List Box
  | .inl r => [.ex false [.c (.os 1 0 0 7 a1 none)] 72, .ex false [.row a2 (.pair (.int .i64) (.pair (.int .i64) (.pair (.int .i64) (.pair .bool (.pair .bool (.pair .str (.int .i64))))))) a3] 30]
  | .inr r => [.ex false [.c (.os 1 0 0 7 a1 none)] 72, .ex false [.row a2 (.pair (.int .i64) (.pair (.int .i64) (.pair (.int .i64) (.pair .bool (.pair .bool (.pair .str (.int .i64))))))) a3] 30]
theorem file_Table_at_v1.fun_ {a0 : Int} {a1 : Nat} {a2 : Nat} {a3 : (List (Int × (Int × (Int × (Bool × (Bool × (ByteArray × Int)))))))} {r : (Int) ⊕ (Nat)} (h : file_Table_at_v1.f a0 a1 a2 a3 = some r) : Fun cfg 25 [.one (.ptr 0 ⟨0, 0, 0, 0⟩), .one (.sc (.int .i64 a0))] [.ex false [.c (.os 1 0 0 7 a1 none)] 72, .ex false [.row a2 (.pair (.int .i64) (.pair (.int .i64) (.pair (.int .i64) (.pair .bool (.pair .bool (.pair .str (.int .i64))))))) a3] 30] (file_Table_at_v1.R r) (file_Table_at_v1.B a0 a1 a2 a3 r) := by
  unfold file_Table_at_v1.f at h
  refine fun_of_run cfg_ok (f := 25) (fn := Tryd.f25) Tryd.func25 rfl (by kernel_rfl) (rs := [.tmp 4, .tmp 5]) rfl (nt := 40) rfl (l := fin) (k := (.one false (.br (.one true (.one true (.one true (.one true (.one true (.one true (.one true (.one true (.one true (.one true (.one true (.one true (.one true (.one true (.one true (.one true (.one true (.one true (.adj [] (.adj [] (.adj [] .nil))))))))))))))))))))) (.one false (.one false (.one false (.one false (.one false (.one false (.one false (.br (.one true (.one true (.one true (.one true (.one true (.one true (.one true (.one true (.one true (.one true (.adj [] (.adj [] (.adj [] .nil))))))))))))) (.one false (.one false (.one false (.one false (.one false (.one false (.one false (.one false (.one false (.br (.adj [] (.adj [] (.adj [] .nil))) (.adj [] (.adj [] (.adj [] (.adj [] .nil))))))))))))))))))))))))) (to_goal (q := (True) ∧ (false = false ∧ (True) ∧ (((decide (a0 < (0 : Int))) = false → ((decide (a0 < (0 : Int))) = false ∧ ((decide (a0 < (0 : Int))) = false ∧ ((decide (a0 < (0 : Int))) = false ∧ ((decide (a0 < (0 : Int))) = false ∧ (True) ∧ ((decide (a0 < (0 : Int))) = false ∧ (True) ∧ ((decide (a0 < (0 : Int))) = false ∧ (True) ∧ ((decide (a0 < (0 : Int))) = false ∧ (((decide (a0 ≥ ((a1 : Nat) : Int))) = false → ((decide (a0 ≥ ((a1 : Nat) : Int))) = false ∧ ((decide (a0 ≥ ((a1 : Nat) : Int))) = false ∧ ((decide (a0 ≥ ((a1 : Nat) : Int))) = false ∧ (True) ∧ ((decide (a0 ≥ ((a1 : Nat) : Int))) = false ∧ ((decide (a0 ≥ ((a1 : Nat) : Int))) = false ∧ (0 ≤ a0 ∧ a0 < ((a1 : Nat) : Int)) ∧ ((decide (a0 ≥ ((a1 : Nat) : Int))) = false ∧ ((decide (a0 ≥ ((a1 : Nat) : Int))) = false ∧ ((0 + (Int.toNat a0)) < a2) ∧ ((decide (a0 ≥ ((a1 : Nat) : Int))) = false ∧ (True) ∧ ((decide (a0 ≥ ((a1 : Nat) : Int))) = false ∧ ((((List.getD a3 (0 + (Int.toNat a0)) ((0 : Int), ((0 : Int), ((0 : Int), (false, (false, (ByteArray.empty, (0 : Int)))))))).2.2.2.2.2.2 == (0 : Int)) = true → (True ∧ (True ∧ ((True) ∧ (True) ∧ (.tup [.one (.sc (.pointer none)), .one (.err (some (9 : Int)))] : Tm) = file_Table_at_v1.R r ∧ ([.ex false [.c (.os 1 0 0 7 a1 none)] 72, .ex false [.row a2 (.pair (.int .i64) (.pair (.int .i64) (.pair (.int .i64) (.pair .bool (.pair .bool (.pair .str (.int .i64))))))) a3] 30] : List Box) = file_Table_at_v1.B a0 a1 a2 a3 r)))) ∧ (((List.getD a3 (0 + (Int.toNat a0)) ((0 : Int), ((0 : Int), ((0 : Int), (false, (false, (ByteArray.empty, (0 : Int)))))))).2.2.2.2.2.2 == (0 : Int)) = false → (True ∧ (True ∧ (True) ∧ (0 ≤ a0 ∧ a0 < ((a1 : Nat) : Int)) ∧ (True ∧ ((True) ∧ (True) ∧ (.tup [.one (.ptr 1 ⟨0, (0 + (Int.toNat a0)), 7, 0⟩), .one (.err none)] : Tm) = file_Table_at_v1.R r ∧ ([.ex false [.c (.os 1 0 0 7 a1 none)] 72, .ex false [.row a2 (.pair (.int .i64) (.pair (.int .i64) (.pair (.int .i64) (.pair .bool (.pair .bool (.pair .str (.int .i64))))))) a3] 30] : List Box) = file_Table_at_v1.B a0 a1 a2 a3 r)))))))))))))))) ∧ ((decide (a0 ≥ ((a1 : Nat) : Int))) = true → ((decide (a0 ≥ ((a1 : Nat) : Int))) = true ∧ ((decide (a0 ≥ ((a1 : Nat) : Int))) = true ∧ ((decide (a0 ≥ ((a1 : Nat) : Int))) = true ∧ ((decide (a0 ≥ ((a1 : Nat) : Int))) = true ∧ ((decide (a0 ≥ ((a1 : Nat) : Int))) = true ∧ ((decide (a0 ≥ ((a1 : Nat) : Int))) = true ∧ ((decide (a0 ≥ ((a1 : Nat) : Int))) = true ∧ ((decide (a0 ≥ ((a1 : Nat) : Int))) = true ∧ ((decide (a0 ≥ ((a1 : Nat) : Int))) = true ∧ (true = true ∧ (True ∧ (True ∧ ((True) ∧ (True) ∧ (.tup [.one (.sc (.pointer none)), .one (.err (some (9 : Int)))] : Tm) = file_Table_at_v1.R r ∧ ([.ex false [.c (.os 1 0 0 7 a1 none)] 72, .ex false [.row a2 (.pair (.int .i64) (.pair (.int .i64) (.pair (.int .i64) (.pair .bool (.pair .bool (.pair .str (.int .i64))))))) a3] 30] : List Box) = file_Table_at_v1.B a0 a1 a2 a3 r))))))))))))))))))))))) ∧ ((decide (a0 < (0 : Int))) = true → ((decide (a0 < (0 : Int))) = true ∧ ((decide (a0 < (0 : Int))) = true ∧ ((decide (a0 < (0 : Int))) = true ∧ ((decide (a0 < (0 : Int))) = true ∧ ((decide (a0 < (0 : Int))) = true ∧ ((decide (a0 < (0 : Int))) = true ∧ ((decide (a0 < (0 : Int))) = true ∧ (true = true ∧ (true = true ∧ (true = true ∧ (true = true ∧ (true = true ∧ (true = true ∧ (true = true ∧ (true = true ∧ (true = true ∧ (true = true ∧ (true = true ∧ (True ∧ (True ∧ ((True) ∧ (True) ∧ (.tup [.one (.sc (.pointer none)), .one (.err (some (9 : Int)))] : Tm) = file_Table_at_v1.R r ∧ ([.ex false [.c (.os 1 0 0 7 a1 none)] 72, .ex false [.row a2 (.pair (.int .i64) (.pair (.int .i64) (.pair (.int .i64) (.pair .bool (.pair .bool (.pair .str (.int .i64))))))) a3] 30] : List Box) = file_Table_at_v1.B a0 a1 a2 a3 r))))))))))))))))))))))))) (by kernel_rfl) ?_)
  refine ⟨trivial, ?_⟩
  refine ⟨rfl, ?_⟩
  refine ⟨trivial, ?_⟩
  refine ⟨fun b1 => ?_, fun b1 => ?_⟩
  · rw [if_neg (of_decide_eq_false b1)] at h
    refine ⟨b1, ?_⟩
    refine ⟨b1, ?_⟩
    refine ⟨b1, ?_⟩
    refine ⟨b1, ?_⟩
    refine ⟨trivial, ?_⟩
    refine ⟨b1, ?_⟩
    refine ⟨trivial, ?_⟩
    refine ⟨b1, ?_⟩
    refine ⟨trivial, ?_⟩
    refine ⟨b1, ?_⟩
    refine ⟨fun b2 => ?_, fun b2 => ?_⟩
    · rw [if_neg (of_decide_eq_false b2)] at h
      refine ⟨b2, ?_⟩
      refine ⟨b2, ?_⟩
      refine ⟨b2, ?_⟩
      refine ⟨trivial, ?_⟩
      refine ⟨b2, ?_⟩
      refine ⟨b2, ?_⟩
      obtain ⟨g6, h⟩ := of_guard h
      refine ⟨g6, ?_⟩
      refine ⟨b2, ?_⟩
      refine ⟨b2, ?_⟩
      obtain ⟨g5, h⟩ := of_guard h
      refine ⟨g5, ?_⟩
      refine ⟨b2, ?_⟩
      refine ⟨trivial, ?_⟩
      refine ⟨b2, ?_⟩
      refine ⟨fun b3 => ?_, fun b3 => ?_⟩
      · rw [if_pos (beq_t b3)] at h
        refine ⟨trivial, ?_⟩
        refine ⟨trivial, ?_⟩
        obtain rfl := Option.some.inj h
        exact ⟨trivial, trivial, rfl, rfl⟩
      · rw [if_neg (beq_f b3)] at h
        refine ⟨trivial, ?_⟩
        refine ⟨trivial, ?_⟩
        refine ⟨trivial, ?_⟩
        obtain ⟨g4, h⟩ := of_guard h
        refine ⟨g4, ?_⟩
        refine ⟨trivial, ?_⟩
        obtain rfl := Option.some.inj h
        exact ⟨trivial, trivial, rfl, rfl⟩
    · rw [if_pos (of_decide_eq_true b2)] at h
      refine ⟨b2, ?_⟩
      refine ⟨b2, ?_⟩
      refine ⟨b2, ?_⟩
      refine ⟨b2, ?_⟩
      refine ⟨b2, ?_⟩
      refine ⟨b2, ?_⟩
      refine ⟨b2, ?_⟩
      refine ⟨b2, ?_⟩
      refine ⟨b2, ?_⟩
      refine ⟨rfl, ?_⟩
      refine ⟨trivial, ?_⟩
      refine ⟨trivial, ?_⟩
      obtain rfl := Option.some.inj h
      exact ⟨trivial, trivial, rfl, rfl⟩
  · rw [if_pos (of_decide_eq_true b1)] at h
    refine ⟨b1, ?_⟩
    refine ⟨b1, ?_⟩
    refine ⟨b1, ?_⟩
    refine ⟨b1, ?_⟩
    refine ⟨b1, ?_⟩
    refine ⟨b1, ?_⟩
    refine ⟨b1, ?_⟩
    refine ⟨rfl, ?_⟩
    refine ⟨rfl, ?_⟩
    refine ⟨rfl, ?_⟩
    refine ⟨rfl, ?_⟩
    refine ⟨rfl, ?_⟩
    refine ⟨rfl, ?_⟩
    refine ⟨rfl, ?_⟩
    refine ⟨rfl, ?_⟩
    refine ⟨rfl, ?_⟩
    refine ⟨rfl, ?_⟩
    refine ⟨rfl, ?_⟩
    refine ⟨trivial, ?_⟩
    refine ⟨trivial, ?_⟩
    obtain rfl := Option.some.inj h
    exact ⟨trivial, trivial, rfl, rfl⟩
/-! (*halter/file.Table).Ref -/
def file_Table_Ref_v1.f (a0 : Int) (a1 : Nat) (a2 : Nat) (a3 : (List (Int × (Int × (Int × (Bool × (Bool × (ByteArray × Int)))))))) : Option ((Option Int) × (List (Int × (Int × (Int × (Bool × (Bool × (ByteArray × Int)))))))) :=
  (file_Table_at_v1.f a0 a1 a2 a3).bind fun t1 =>
  match t1 with
  | .inl t2 =>
    some ((some t2), a3)
  | .inr t3 =>
    if t3 < a2 then
      if (List.getD a3 t3 ((0 : Int), ((0 : Int), ((0 : Int), (false, (false, (ByteArray.empty, (0 : Int)))))))).2.2.2.2.2.2 ≥ (1048576 : Int) then
        some ((some (22 : Int)), a3)
      else
        if t3 < a2 then
          if t3 < a2 then
            some (none, (List.set a3 t3 ((List.getD a3 t3 ((0 : Int), ((0 : Int), ((0 : Int), (false, (false, (ByteArray.empty, (0 : Int)))))))).1, ((List.getD a3 t3 ((0 : Int), ((0 : Int), ((0 : Int), (false, (false, (ByteArray.empty, (0 : Int)))))))).2.1, ((List.getD a3 t3 ((0 : Int), ((0 : Int), ((0 : Int), (false, (false, (ByteArray.empty, (0 : Int)))))))).2.2.1, ((List.getD a3 t3 ((0 : Int), ((0 : Int), ((0 : Int), (false, (false, (ByteArray.empty, (0 : Int)))))))).2.2.2.1, ((List.getD a3 t3 ((0 : Int), ((0 : Int), ((0 : Int), (false, (false, (ByteArray.empty, (0 : Int)))))))).2.2.2.2.1, ((List.getD a3 t3 ((0 : Int), ((0 : Int), ((0 : Int), (false, (false, (ByteArray.empty, (0 : Int)))))))).2.2.2.2.2.1, (IntKind.wrap .i64 ((List.getD a3 t3 ((0 : Int), ((0 : Int), ((0 : Int), (false, (false, (ByteArray.empty, (0 : Int)))))))).2.2.2.2.2.2 + (1 : Int)))))))))))
          else none
        else none
    else none
def file_Table_Ref_v1.R (r : (Option Int) × (List (Int × (Int × (Int × (Bool × (Bool × (ByteArray × Int)))))))) : Tm := .v (.one (.err r.1))
def file_Table_Ref_v1.B (a0 : Int) (a1 : Nat) (a2 : Nat) (a3 : (List (Int × (Int × (Int × (Bool × (Bool × (ByteArray × Int)))))))) (r : (Option Int) × (List (Int × (Int × (Int × (Bool × (Bool × (ByteArray × Int)))))))) : List Box := [.ex false [.c (.os 1 0 0 7 a1 none)] 72, .ex false [.row a2 (.pair (.int .i64) (.pair (.int .i64) (.pair (.int .i64) (.pair .bool (.pair .bool (.pair .str (.int .i64))))))) r.2] 30]
theorem file_Table_Ref_v1.fun_ {a0 : Int} {a1 : Nat} {a2 : Nat} {a3 : (List (Int × (Int × (Int × (Bool × (Bool × (ByteArray × Int)))))))} {r : (Option Int) × (List (Int × (Int × (Int × (Bool × (Bool × (ByteArray × Int)))))))} (h : file_Table_Ref_v1.f a0 a1 a2 a3 = some r) : Fun cfg 13 [.one (.ptr 0 ⟨0, 0, 0, 0⟩), .one (.sc (.int .i64 a0))] [.ex false [.c (.os 1 0 0 7 a1 none)] 72, .ex false [.row a2 (.pair (.int .i64) (.pair (.int .i64) (.pair (.int .i64) (.pair .bool (.pair .bool (.pair .str (.int .i64))))))) a3] 30] (file_Table_Ref_v1.R r) (file_Table_Ref_v1.B a0 a1 a2 a3 r) := by
  unfold file_Table_Ref_v1.f at h
  refine fun_of_run cfg_ok (f := 13) (fn := Tryd.f13) Tryd.func13 rfl (by kernel_rfl) (rs := [.tmp 4]) rfl (nt := 31) rfl (l := fin) (k := (.alt (.callR true [] [0, 1] (Int) (fun t2 => (file_Table_at_v1.R (.inl t2))) (fun t2 => (file_Table_at_v1.B a0 a1 a2 a3 (.inl t2))) (fun t2 => (.one true (.adj [] (.adj [] (.adj [] .nil)))))) (.callR true [] [0, 1] (Nat) (fun t3 => (file_Table_at_v1.R (.inr t3))) (fun t3 => (file_Table_at_v1.B a0 a1 a2 a3 (.inr t3))) (fun t3 => (.one false (.br (.adj [] (.adj [] (.adj [] .nil))) (.adj [] (.adj [] (.adj [] (.adj [] (.adj [] .nil))))))))))) (to_goal (q := ((∃ t2 : Int, (Fun cfg 25 [.one (.ptr 0 ⟨0, 0, 0, 0⟩), .one (.sc (.int .i64 a0))] [.ex false [.c (.os 1 0 0 7 a1 none)] 72, .ex false [.row a2 (.pair (.int .i64) (.pair (.int .i64) (.pair (.int .i64) (.pair .bool (.pair .bool (.pair .str (.int .i64))))))) a3] 30] (file_Table_at_v1.R (.inl t2)) (file_Table_at_v1.B a0 a1 a2 a3 (.inl t2)) ∧ True) ∧ (True) ∧ (true = true ∧ (True ∧ (True ∧ ((True) ∧ (True) ∧ (.v (.one (.err (some t2))) : Tm) = file_Table_Ref_v1.R r ∧ ([.ex false [.c (.os 1 0 0 7 a1 none)] 72, .ex false [.row a2 (.pair (.int .i64) (.pair (.int .i64) (.pair (.int .i64) (.pair .bool (.pair .bool (.pair .str (.int .i64))))))) a3] 30] : List Box) = file_Table_Ref_v1.B a0 a1 a2 a3 r))))) ∨ (∃ t3 : Nat, (Fun cfg 25 [.one (.ptr 0 ⟨0, 0, 0, 0⟩), .one (.sc (.int .i64 a0))] [.ex false [.c (.os 1 0 0 7 a1 none)] 72, .ex false [.row a2 (.pair (.int .i64) (.pair (.int .i64) (.pair (.int .i64) (.pair .bool (.pair .bool (.pair .str (.int .i64))))))) a3] 30] (file_Table_at_v1.R (.inr t3)) (file_Table_at_v1.B a0 a1 a2 a3 (.inr t3)) ∧ True) ∧ (True) ∧ (false = false ∧ (t3 < a2) ∧ (True) ∧ (((decide ((List.getD a3 t3 ((0 : Int), ((0 : Int), ((0 : Int), (false, (false, (ByteArray.empty, (0 : Int)))))))).2.2.2.2.2.2 ≥ (1048576 : Int))) = true → (True ∧ (True ∧ ((True) ∧ (True) ∧ (.v (.one (.err (some (22 : Int)))) : Tm) = file_Table_Ref_v1.R r ∧ ([.ex false [.c (.os 1 0 0 7 a1 none)] 72, .ex false [.row a2 (.pair (.int .i64) (.pair (.int .i64) (.pair (.int .i64) (.pair .bool (.pair .bool (.pair .str (.int .i64))))))) a3] 30] : List Box) = file_Table_Ref_v1.B a0 a1 a2 a3 r)))) ∧ ((decide ((List.getD a3 t3 ((0 : Int), ((0 : Int), ((0 : Int), (false, (false, (ByteArray.empty, (0 : Int)))))))).2.2.2.2.2.2 ≥ (1048576 : Int))) = false → (True ∧ (True ∧ (t3 < a2) ∧ (True) ∧ (t3 < a2) ∧ (True ∧ (True ∧ ((True) ∧ (True) ∧ (.v (.one (.err none)) : Tm) = file_Table_Ref_v1.R r ∧ ([.ex false [.c (.os 1 0 0 7 a1 none)] 72, .ex false [.row a2 (.pair (.int .i64) (.pair (.int .i64) (.pair (.int .i64) (.pair .bool (.pair .bool (.pair .str (.int .i64))))))) (List.set a3 t3 ((List.getD a3 t3 ((0 : Int), ((0 : Int), ((0 : Int), (false, (false, (ByteArray.empty, (0 : Int)))))))).1, ((List.getD a3 t3 ((0 : Int), ((0 : Int), ((0 : Int), (false, (false, (ByteArray.empty, (0 : Int)))))))).2.1, ((List.getD a3 t3 ((0 : Int), ((0 : Int), ((0 : Int), (false, (false, (ByteArray.empty, (0 : Int)))))))).2.2.1, ((List.getD a3 t3 ((0 : Int), ((0 : Int), ((0 : Int), (false, (false, (ByteArray.empty, (0 : Int)))))))).2.2.2.1, ((List.getD a3 t3 ((0 : Int), ((0 : Int), ((0 : Int), (false, (false, (ByteArray.empty, (0 : Int)))))))).2.2.2.2.1, ((List.getD a3 t3 ((0 : Int), ((0 : Int), ((0 : Int), (false, (false, (ByteArray.empty, (0 : Int)))))))).2.2.2.2.2.1, (IntKind.wrap .i64 ((List.getD a3 t3 ((0 : Int), ((0 : Int), ((0 : Int), (false, (false, (ByteArray.empty, (0 : Int)))))))).2.2.2.2.2.2 + (1 : Int))))))))))] 30] : List Box) = file_Table_Ref_v1.B a0 a1 a2 a3 r))))))))))) (by kernel_rfl) ?_)
  obtain ⟨t1, ht1, h⟩ := of_bind h
  rcases t1 with t2 | t3
  · dsimp only at h
    left
    refine ⟨t2, ⟨file_Table_at_v1.fun_ ht1, trivial⟩, ?_⟩
    refine ⟨trivial, ?_⟩
    refine ⟨rfl, ?_⟩
    refine ⟨trivial, ?_⟩
    refine ⟨trivial, ?_⟩
    obtain rfl := Option.some.inj h
    exact ⟨trivial, trivial, rfl, rfl⟩
  · dsimp only at h
    right
    refine ⟨t3, ⟨file_Table_at_v1.fun_ ht1, trivial⟩, ?_⟩
    refine ⟨trivial, ?_⟩
    refine ⟨rfl, ?_⟩
    obtain ⟨g7, h⟩ := of_guard h
    refine ⟨g7, ?_⟩
    refine ⟨trivial, ?_⟩
    refine ⟨fun b4 => ?_, fun b4 => ?_⟩
    · rw [if_pos (of_decide_eq_true b4)] at h
      refine ⟨trivial, ?_⟩
      refine ⟨trivial, ?_⟩
      obtain rfl := Option.some.inj h
      exact ⟨trivial, trivial, rfl, rfl⟩
    · rw [if_neg (of_decide_eq_false b4)] at h
      refine ⟨trivial, ?_⟩
      refine ⟨trivial, ?_⟩
      obtain ⟨g6, h⟩ := of_guard h
      refine ⟨g6, ?_⟩
      refine ⟨trivial, ?_⟩
      obtain ⟨g5, h⟩ := of_guard h
      refine ⟨g5, ?_⟩
      refine ⟨trivial, ?_⟩
      refine ⟨trivial, ?_⟩
      obtain rfl := Option.some.inj h
      exact ⟨trivial, trivial, rfl, rfl⟩
/-! (*halter/file.Table).Unref -/
def file_Table_Unref_v1.c0 (a3 : (List (Int × (Int × (Int × (Bool × (Bool × (ByteArray × Int)))))))) (t3 : Nat) : Bool := ((List.getD (List.set a3 t3 ((List.getD a3 t3 ((0 : Int), ((0 : Int), ((0 : Int), (false, (false, (ByteArray.empty, (0 : Int)))))))).1, ((List.getD a3 t3 ((0 : Int), ((0 : Int), ((0 : Int), (false, (false, (ByteArray.empty, (0 : Int)))))))).2.1, ((List.getD a3 t3 ((0 : Int), ((0 : Int), ((0 : Int), (false, (false, (ByteArray.empty, (0 : Int)))))))).2.2.1, ((List.getD a3 t3 ((0 : Int), ((0 : Int), ((0 : Int), (false, (false, (ByteArray.empty, (0 : Int)))))))).2.2.2.1, ((List.getD a3 t3 ((0 : Int), ((0 : Int), ((0 : Int), (false, (false, (ByteArray.empty, (0 : Int)))))))).2.2.2.2.1, ((List.getD a3 t3 ((0 : Int), ((0 : Int), ((0 : Int), (false, (false, (ByteArray.empty, (0 : Int)))))))).2.2.2.2.2.1, (IntKind.wrap .i64 ((List.getD a3 t3 ((0 : Int), ((0 : Int), ((0 : Int), (false, (false, (ByteArray.empty, (0 : Int)))))))).2.2.2.2.2.2 - (1 : Int)))))))))) t3 ((0 : Int), ((0 : Int), ((0 : Int), (false, (false, (ByteArray.empty, (0 : Int)))))))).2.2.2.2.2.2 == (0 : Int))
def file_Table_Unref_v1.c1 (a3 : (List (Int × (Int × (Int × (Bool × (Bool × (ByteArray × Int)))))))) (t3 : Nat) : Bool := (List.getD (List.set a3 t3 ((List.getD a3 t3 ((0 : Int), ((0 : Int), ((0 : Int), (false, (false, (ByteArray.empty, (0 : Int)))))))).1, ((List.getD a3 t3 ((0 : Int), ((0 : Int), ((0 : Int), (false, (false, (ByteArray.empty, (0 : Int)))))))).2.1, ((List.getD a3 t3 ((0 : Int), ((0 : Int), ((0 : Int), (false, (false, (ByteArray.empty, (0 : Int)))))))).2.2.1, ((List.getD a3 t3 ((0 : Int), ((0 : Int), ((0 : Int), (false, (false, (ByteArray.empty, (0 : Int)))))))).2.2.2.1, ((List.getD a3 t3 ((0 : Int), ((0 : Int), ((0 : Int), (false, (false, (ByteArray.empty, (0 : Int)))))))).2.2.2.2.1, ((List.getD a3 t3 ((0 : Int), ((0 : Int), ((0 : Int), (false, (false, (ByteArray.empty, (0 : Int)))))))).2.2.2.2.2.1, (IntKind.wrap .i64 ((List.getD a3 t3 ((0 : Int), ((0 : Int), ((0 : Int), (false, (false, (ByteArray.empty, (0 : Int)))))))).2.2.2.2.2.2 - (1 : Int)))))))))) t3 ((0 : Int), ((0 : Int), ((0 : Int), (false, (false, (ByteArray.empty, (0 : Int)))))))).2.2.2.2.1
def file_Table_Unref_v1.c2 (a3 : (List (Int × (Int × (Int × (Bool × (Bool × (ByteArray × Int)))))))) (t3 : Nat) : Bool := (List.getD (List.set a3 t3 ((List.getD a3 t3 ((0 : Int), ((0 : Int), ((0 : Int), (false, (false, (ByteArray.empty, (0 : Int)))))))).1, ((List.getD a3 t3 ((0 : Int), ((0 : Int), ((0 : Int), (false, (false, (ByteArray.empty, (0 : Int)))))))).2.1, ((List.getD a3 t3 ((0 : Int), ((0 : Int), ((0 : Int), (false, (false, (ByteArray.empty, (0 : Int)))))))).2.2.1, ((List.getD a3 t3 ((0 : Int), ((0 : Int), ((0 : Int), (false, (false, (ByteArray.empty, (0 : Int)))))))).2.2.2.1, ((List.getD a3 t3 ((0 : Int), ((0 : Int), ((0 : Int), (false, (false, (ByteArray.empty, (0 : Int)))))))).2.2.2.2.1, ((List.getD a3 t3 ((0 : Int), ((0 : Int), ((0 : Int), (false, (false, (ByteArray.empty, (0 : Int)))))))).2.2.2.2.2.1, (IntKind.wrap .i64 ((List.getD a3 t3 ((0 : Int), ((0 : Int), ((0 : Int), (false, (false, (ByteArray.empty, (0 : Int)))))))).2.2.2.2.2.2 - (1 : Int)))))))))) t3 ((0 : Int), ((0 : Int), ((0 : Int), (false, (false, (ByteArray.empty, (0 : Int)))))))).2.2.2.1
def file_Table_Unref_v1.c3 (a3 : (List (Int × (Int × (Int × (Bool × (Bool × (ByteArray × Int)))))))) (t3 : Nat) : Box := .ex false [.c (.sc (.int .i64 (List.getD (List.set a3 t3 ((List.getD a3 t3 ((0 : Int), ((0 : Int), ((0 : Int), (false, (false, (ByteArray.empty, (0 : Int)))))))).1, ((List.getD a3 t3 ((0 : Int), ((0 : Int), ((0 : Int), (false, (false, (ByteArray.empty, (0 : Int)))))))).2.1, ((List.getD a3 t3 ((0 : Int), ((0 : Int), ((0 : Int), (false, (false, (ByteArray.empty, (0 : Int)))))))).2.2.1, ((List.getD a3 t3 ((0 : Int), ((0 : Int), ((0 : Int), (false, (false, (ByteArray.empty, (0 : Int)))))))).2.2.2.1, ((List.getD a3 t3 ((0 : Int), ((0 : Int), ((0 : Int), (false, (false, (ByteArray.empty, (0 : Int)))))))).2.2.2.2.1, ((List.getD a3 t3 ((0 : Int), ((0 : Int), ((0 : Int), (false, (false, (ByteArray.empty, (0 : Int)))))))).2.2.2.2.2.1, (IntKind.wrap .i64 ((List.getD a3 t3 ((0 : Int), ((0 : Int), ((0 : Int), (false, (false, (ByteArray.empty, (0 : Int)))))))).2.2.2.2.2.2 - (1 : Int)))))))))) t3 ((0 : Int), ((0 : Int), ((0 : Int), (false, (false, (ByteArray.empty, (0 : Int)))))))).1)), .c (.sc (.int .i64 (List.getD (List.set a3 t3 ((List.getD a3 t3 ((0 : Int), ((0 : Int), ((0 : Int), (false, (false, (ByteArray.empty, (0 : Int)))))))).1, ((List.getD a3 t3 ((0 : Int), ((0 : Int), ((0 : Int), (false, (false, (ByteArray.empty, (0 : Int)))))))).2.1, ((List.getD a3 t3 ((0 : Int), ((0 : Int), ((0 : Int), (false, (false, (ByteArray.empty, (0 : Int)))))))).2.2.1, ((List.getD a3 t3 ((0 : Int), ((0 : Int), ((0 : Int), (false, (false, (ByteArray.empty, (0 : Int)))))))).2.2.2.1, ((List.getD a3 t3 ((0 : Int), ((0 : Int), ((0 : Int), (false, (false, (ByteArray.empty, (0 : Int)))))))).2.2.2.2.1, ((List.getD a3 t3 ((0 : Int), ((0 : Int), ((0 : Int), (false, (false, (ByteArray.empty, (0 : Int)))))))).2.2.2.2.2.1, (IntKind.wrap .i64 ((List.getD a3 t3 ((0 : Int), ((0 : Int), ((0 : Int), (false, (false, (ByteArray.empty, (0 : Int)))))))).2.2.2.2.2.2 - (1 : Int)))))))))) t3 ((0 : Int), ((0 : Int), ((0 : Int), (false, (false, (ByteArray.empty, (0 : Int)))))))).2.1)), .c (.sc (.int .i64 (List.getD (List.set a3 t3 ((List.getD a3 t3 ((0 : Int), ((0 : Int), ((0 : Int), (false, (false, (ByteArray.empty, (0 : Int)))))))).1, ((List.getD a3 t3 ((0 : Int), ((0 : Int), ((0 : Int), (false, (false, (ByteArray.empty, (0 : Int)))))))).2.1, ((List.getD a3 t3 ((0 : Int), ((0 : Int), ((0 : Int), (false, (false, (ByteArray.empty, (0 : Int)))))))).2.2.1, ((List.getD a3 t3 ((0 : Int), ((0 : Int), ((0 : Int), (false, (false, (ByteArray.empty, (0 : Int)))))))).2.2.2.1, ((List.getD a3 t3 ((0 : Int), ((0 : Int), ((0 : Int), (false, (false, (ByteArray.empty, (0 : Int)))))))).2.2.2.2.1, ((List.getD a3 t3 ((0 : Int), ((0 : Int), ((0 : Int), (false, (false, (ByteArray.empty, (0 : Int)))))))).2.2.2.2.2.1, (IntKind.wrap .i64 ((List.getD a3 t3 ((0 : Int), ((0 : Int), ((0 : Int), (false, (false, (ByteArray.empty, (0 : Int)))))))).2.2.2.2.2.2 - (1 : Int)))))))))) t3 ((0 : Int), ((0 : Int), ((0 : Int), (false, (false, (ByteArray.empty, (0 : Int)))))))).2.2.1)), .c (.sc (.bool (List.getD (List.set a3 t3 ((List.getD a3 t3 ((0 : Int), ((0 : Int), ((0 : Int), (false, (false, (ByteArray.empty, (0 : Int)))))))).1, ((List.getD a3 t3 ((0 : Int), ((0 : Int), ((0 : Int), (false, (false, (ByteArray.empty, (0 : Int)))))))).2.1, ((List.getD a3 t3 ((0 : Int), ((0 : Int), ((0 : Int), (false, (false, (ByteArray.empty, (0 : Int)))))))).2.2.1, ((List.getD a3 t3 ((0 : Int), ((0 : Int), ((0 : Int), (false, (false, (ByteArray.empty, (0 : Int)))))))).2.2.2.1, ((List.getD a3 t3 ((0 : Int), ((0 : Int), ((0 : Int), (false, (false, (ByteArray.empty, (0 : Int)))))))).2.2.2.2.1, ((List.getD a3 t3 ((0 : Int), ((0 : Int), ((0 : Int), (false, (false, (ByteArray.empty, (0 : Int)))))))).2.2.2.2.2.1, (IntKind.wrap .i64 ((List.getD a3 t3 ((0 : Int), ((0 : Int), ((0 : Int), (false, (false, (ByteArray.empty, (0 : Int)))))))).2.2.2.2.2.2 - (1 : Int)))))))))) t3 ((0 : Int), ((0 : Int), ((0 : Int), (false, (false, (ByteArray.empty, (0 : Int)))))))).2.2.2.1)), .c (.sc (.bool (List.getD (List.set a3 t3 ((List.getD a3 t3 ((0 : Int), ((0 : Int), ((0 : Int), (false, (false, (ByteArray.empty, (0 : Int)))))))).1, ((List.getD a3 t3 ((0 : Int), ((0 : Int), ((0 : Int), (false, (false, (ByteArray.empty, (0 : Int)))))))).2.1, ((List.getD a3 t3 ((0 : Int), ((0 : Int), ((0 : Int), (false, (false, (ByteArray.empty, (0 : Int)))))))).2.2.1, ((List.getD a3 t3 ((0 : Int), ((0 : Int), ((0 : Int), (false, (false, (ByteArray.empty, (0 : Int)))))))).2.2.2.1, ((List.getD a3 t3 ((0 : Int), ((0 : Int), ((0 : Int), (false, (false, (ByteArray.empty, (0 : Int)))))))).2.2.2.2.1, ((List.getD a3 t3 ((0 : Int), ((0 : Int), ((0 : Int), (false, (false, (ByteArray.empty, (0 : Int)))))))).2.2.2.2.2.1, (IntKind.wrap .i64 ((List.getD a3 t3 ((0 : Int), ((0 : Int), ((0 : Int), (false, (false, (ByteArray.empty, (0 : Int)))))))).2.2.2.2.2.2 - (1 : Int)))))))))) t3 ((0 : Int), ((0 : Int), ((0 : Int), (false, (false, (ByteArray.empty, (0 : Int)))))))).2.2.2.2.1)), .c (.sc (.string (List.getD (List.set a3 t3 ((List.getD a3 t3 ((0 : Int), ((0 : Int), ((0 : Int), (false, (false, (ByteArray.empty, (0 : Int)))))))).1, ((List.getD a3 t3 ((0 : Int), ((0 : Int), ((0 : Int), (false, (false, (ByteArray.empty, (0 : Int)))))))).2.1, ((List.getD a3 t3 ((0 : Int), ((0 : Int), ((0 : Int), (false, (false, (ByteArray.empty, (0 : Int)))))))).2.2.1, ((List.getD a3 t3 ((0 : Int), ((0 : Int), ((0 : Int), (false, (false, (ByteArray.empty, (0 : Int)))))))).2.2.2.1, ((List.getD a3 t3 ((0 : Int), ((0 : Int), ((0 : Int), (false, (false, (ByteArray.empty, (0 : Int)))))))).2.2.2.2.1, ((List.getD a3 t3 ((0 : Int), ((0 : Int), ((0 : Int), (false, (false, (ByteArray.empty, (0 : Int)))))))).2.2.2.2.2.1, (IntKind.wrap .i64 ((List.getD a3 t3 ((0 : Int), ((0 : Int), ((0 : Int), (false, (false, (ByteArray.empty, (0 : Int)))))))).2.2.2.2.2.2 - (1 : Int)))))))))) t3 ((0 : Int), ((0 : Int), ((0 : Int), (false, (false, (ByteArray.empty, (0 : Int)))))))).2.2.2.2.2.1)), .c (.sc (.int .i64 (List.getD (List.set a3 t3 ((List.getD a3 t3 ((0 : Int), ((0 : Int), ((0 : Int), (false, (false, (ByteArray.empty, (0 : Int)))))))).1, ((List.getD a3 t3 ((0 : Int), ((0 : Int), ((0 : Int), (false, (false, (ByteArray.empty, (0 : Int)))))))).2.1, ((List.getD a3 t3 ((0 : Int), ((0 : Int), ((0 : Int), (false, (false, (ByteArray.empty, (0 : Int)))))))).2.2.1, ((List.getD a3 t3 ((0 : Int), ((0 : Int), ((0 : Int), (false, (false, (ByteArray.empty, (0 : Int)))))))).2.2.2.1, ((List.getD a3 t3 ((0 : Int), ((0 : Int), ((0 : Int), (false, (false, (ByteArray.empty, (0 : Int)))))))).2.2.2.2.1, ((List.getD a3 t3 ((0 : Int), ((0 : Int), ((0 : Int), (false, (false, (ByteArray.empty, (0 : Int)))))))).2.2.2.2.2.1, (IntKind.wrap .i64 ((List.getD a3 t3 ((0 : Int), ((0 : Int), ((0 : Int), (false, (false, (ByteArray.empty, (0 : Int)))))))).2.2.2.2.2.2 - (1 : Int)))))))))) t3 ((0 : Int), ((0 : Int), ((0 : Int), (false, (false, (ByteArray.empty, (0 : Int)))))))).2.2.2.2.2.2))] 30
def file_Table_Unref_v1.c4 (a3 : (List (Int × (Int × (Int × (Bool × (Bool × (ByteArray × Int)))))))) (t3 : Nat) : AV := .agg [.c (.sc (.int .i64 (List.getD (List.set a3 t3 ((List.getD a3 t3 ((0 : Int), ((0 : Int), ((0 : Int), (false, (false, (ByteArray.empty, (0 : Int)))))))).1, ((List.getD a3 t3 ((0 : Int), ((0 : Int), ((0 : Int), (false, (false, (ByteArray.empty, (0 : Int)))))))).2.1, ((List.getD a3 t3 ((0 : Int), ((0 : Int), ((0 : Int), (false, (false, (ByteArray.empty, (0 : Int)))))))).2.2.1, ((List.getD a3 t3 ((0 : Int), ((0 : Int), ((0 : Int), (false, (false, (ByteArray.empty, (0 : Int)))))))).2.2.2.1, ((List.getD a3 t3 ((0 : Int), ((0 : Int), ((0 : Int), (false, (false, (ByteArray.empty, (0 : Int)))))))).2.2.2.2.1, ((List.getD a3 t3 ((0 : Int), ((0 : Int), ((0 : Int), (false, (false, (ByteArray.empty, (0 : Int)))))))).2.2.2.2.2.1, (IntKind.wrap .i64 ((List.getD a3 t3 ((0 : Int), ((0 : Int), ((0 : Int), (false, (false, (ByteArray.empty, (0 : Int)))))))).2.2.2.2.2.2 - (1 : Int)))))))))) t3 ((0 : Int), ((0 : Int), ((0 : Int), (false, (false, (ByteArray.empty, (0 : Int)))))))).1)), .c (.sc (.int .i64 (List.getD (List.set a3 t3 ((List.getD a3 t3 ((0 : Int), ((0 : Int), ((0 : Int), (false, (false, (ByteArray.empty, (0 : Int)))))))).1, ((List.getD a3 t3 ((0 : Int), ((0 : Int), ((0 : Int), (false, (false, (ByteArray.empty, (0 : Int)))))))).2.1, ((List.getD a3 t3 ((0 : Int), ((0 : Int), ((0 : Int), (false, (false, (ByteArray.empty, (0 : Int)))))))).2.2.1, ((List.getD a3 t3 ((0 : Int), ((0 : Int), ((0 : Int), (false, (false, (ByteArray.empty, (0 : Int)))))))).2.2.2.1, ((List.getD a3 t3 ((0 : Int), ((0 : Int), ((0 : Int), (false, (false, (ByteArray.empty, (0 : Int)))))))).2.2.2.2.1, ((List.getD a3 t3 ((0 : Int), ((0 : Int), ((0 : Int), (false, (false, (ByteArray.empty, (0 : Int)))))))).2.2.2.2.2.1, (IntKind.wrap .i64 ((List.getD a3 t3 ((0 : Int), ((0 : Int), ((0 : Int), (false, (false, (ByteArray.empty, (0 : Int)))))))).2.2.2.2.2.2 - (1 : Int)))))))))) t3 ((0 : Int), ((0 : Int), ((0 : Int), (false, (false, (ByteArray.empty, (0 : Int)))))))).2.1)), .c (.sc (.int .i64 (List.getD (List.set a3 t3 ((List.getD a3 t3 ((0 : Int), ((0 : Int), ((0 : Int), (false, (false, (ByteArray.empty, (0 : Int)))))))).1, ((List.getD a3 t3 ((0 : Int), ((0 : Int), ((0 : Int), (false, (false, (ByteArray.empty, (0 : Int)))))))).2.1, ((List.getD a3 t3 ((0 : Int), ((0 : Int), ((0 : Int), (false, (false, (ByteArray.empty, (0 : Int)))))))).2.2.1, ((List.getD a3 t3 ((0 : Int), ((0 : Int), ((0 : Int), (false, (false, (ByteArray.empty, (0 : Int)))))))).2.2.2.1, ((List.getD a3 t3 ((0 : Int), ((0 : Int), ((0 : Int), (false, (false, (ByteArray.empty, (0 : Int)))))))).2.2.2.2.1, ((List.getD a3 t3 ((0 : Int), ((0 : Int), ((0 : Int), (false, (false, (ByteArray.empty, (0 : Int)))))))).2.2.2.2.2.1, (IntKind.wrap .i64 ((List.getD a3 t3 ((0 : Int), ((0 : Int), ((0 : Int), (false, (false, (ByteArray.empty, (0 : Int)))))))).2.2.2.2.2.2 - (1 : Int)))))))))) t3 ((0 : Int), ((0 : Int), ((0 : Int), (false, (false, (ByteArray.empty, (0 : Int)))))))).2.2.1)), .c (.sc (.bool (List.getD (List.set a3 t3 ((List.getD a3 t3 ((0 : Int), ((0 : Int), ((0 : Int), (false, (false, (ByteArray.empty, (0 : Int)))))))).1, ((List.getD a3 t3 ((0 : Int), ((0 : Int), ((0 : Int), (false, (false, (ByteArray.empty, (0 : Int)))))))).2.1, ((List.getD a3 t3 ((0 : Int), ((0 : Int), ((0 : Int), (false, (false, (ByteArray.empty, (0 : Int)))))))).2.2.1, ((List.getD a3 t3 ((0 : Int), ((0 : Int), ((0 : Int), (false, (false, (ByteArray.empty, (0 : Int)))))))).2.2.2.1, ((List.getD a3 t3 ((0 : Int), ((0 : Int), ((0 : Int), (false, (false, (ByteArray.empty, (0 : Int)))))))).2.2.2.2.1, ((List.getD a3 t3 ((0 : Int), ((0 : Int), ((0 : Int), (false, (false, (ByteArray.empty, (0 : Int)))))))).2.2.2.2.2.1, (IntKind.wrap .i64 ((List.getD a3 t3 ((0 : Int), ((0 : Int), ((0 : Int), (false, (false, (ByteArray.empty, (0 : Int)))))))).2.2.2.2.2.2 - (1 : Int)))))))))) t3 ((0 : Int), ((0 : Int), ((0 : Int), (false, (false, (ByteArray.empty, (0 : Int)))))))).2.2.2.1)), .c (.sc (.bool (List.getD (List.set a3 t3 ((List.getD a3 t3 ((0 : Int), ((0 : Int), ((0 : Int), (false, (false, (ByteArray.empty, (0 : Int)))))))).1, ((List.getD a3 t3 ((0 : Int), ((0 : Int), ((0 : Int), (false, (false, (ByteArray.empty, (0 : Int)))))))).2.1, ((List.getD a3 t3 ((0 : Int), ((0 : Int), ((0 : Int), (false, (false, (ByteArray.empty, (0 : Int)))))))).2.2.1, ((List.getD a3 t3 ((0 : Int), ((0 : Int), ((0 : Int), (false, (false, (ByteArray.empty, (0 : Int)))))))).2.2.2.1, ((List.getD a3 t3 ((0 : Int), ((0 : Int), ((0 : Int), (false, (false, (ByteArray.empty, (0 : Int)))))))).2.2.2.2.1, ((List.getD a3 t3 ((0 : Int), ((0 : Int), ((0 : Int), (false, (false, (ByteArray.empty, (0 : Int)))))))).2.2.2.2.2.1, (IntKind.wrap .i64 ((List.getD a3 t3 ((0 : Int), ((0 : Int), ((0 : Int), (false, (false, (ByteArray.empty, (0 : Int)))))))).2.2.2.2.2.2 - (1 : Int)))))))))) t3 ((0 : Int), ((0 : Int), ((0 : Int), (false, (false, (ByteArray.empty, (0 : Int)))))))).2.2.2.2.1)), .c (.sc (.string (List.getD (List.set a3 t3 ((List.getD a3 t3 ((0 : Int), ((0 : Int), ((0 : Int), (false, (false, (ByteArray.empty, (0 : Int)))))))).1, ((List.getD a3 t3 ((0 : Int), ((0 : Int), ((0 : Int), (false, (false, (ByteArray.empty, (0 : Int)))))))).2.1, ((List.getD a3 t3 ((0 : Int), ((0 : Int), ((0 : Int), (false, (false, (ByteArray.empty, (0 : Int)))))))).2.2.1, ((List.getD a3 t3 ((0 : Int), ((0 : Int), ((0 : Int), (false, (false, (ByteArray.empty, (0 : Int)))))))).2.2.2.1, ((List.getD a3 t3 ((0 : Int), ((0 : Int), ((0 : Int), (false, (false, (ByteArray.empty, (0 : Int)))))))).2.2.2.2.1, ((List.getD a3 t3 ((0 : Int), ((0 : Int), ((0 : Int), (false, (false, (ByteArray.empty, (0 : Int)))))))).2.2.2.2.2.1, (IntKind.wrap .i64 ((List.getD a3 t3 ((0 : Int), ((0 : Int), ((0 : Int), (false, (false, (ByteArray.empty, (0 : Int)))))))).2.2.2.2.2.2 - (1 : Int)))))))))) t3 ((0 : Int), ((0 : Int), ((0 : Int), (false, (false, (ByteArray.empty, (0 : Int)))))))).2.2.2.2.2.1)), .c (.sc (.int .i64 (List.getD (List.set a3 t3 ((List.getD a3 t3 ((0 : Int), ((0 : Int), ((0 : Int), (false, (false, (ByteArray.empty, (0 : Int)))))))).1, ((List.getD a3 t3 ((0 : Int), ((0 : Int), ((0 : Int), (false, (false, (ByteArray.empty, (0 : Int)))))))).2.1, ((List.getD a3 t3 ((0 : Int), ((0 : Int), ((0 : Int), (false, (false, (ByteArray.empty, (0 : Int)))))))).2.2.1, ((List.getD a3 t3 ((0 : Int), ((0 : Int), ((0 : Int), (false, (false, (ByteArray.empty, (0 : Int)))))))).2.2.2.1, ((List.getD a3 t3 ((0 : Int), ((0 : Int), ((0 : Int), (false, (false, (ByteArray.empty, (0 : Int)))))))).2.2.2.2.1, ((List.getD a3 t3 ((0 : Int), ((0 : Int), ((0 : Int), (false, (false, (ByteArray.empty, (0 : Int)))))))).2.2.2.2.2.1, (IntKind.wrap .i64 ((List.getD a3 t3 ((0 : Int), ((0 : Int), ((0 : Int), (false, (false, (ByteArray.empty, (0 : Int)))))))).2.2.2.2.2.2 - (1 : Int)))))))))) t3 ((0 : Int), ((0 : Int), ((0 : Int), (false, (false, (ByteArray.empty, (0 : Int)))))))).2.2.2.2.2.2))]
def file_Table_Unref_v1.c5 (a2 : Nat) (a3 : (List (Int × (Int × (Int × (Bool × (Bool × (ByteArray × Int)))))))) (t3 : Nat) : Box := .ex false [.row a2 (.pair (.int .i64) (.pair (.int .i64) (.pair (.int .i64) (.pair .bool (.pair .bool (.pair .str (.int .i64))))))) (List.set a3 t3 ((List.getD a3 t3 ((0 : Int), ((0 : Int), ((0 : Int), (false, (false, (ByteArray.empty, (0 : Int)))))))).1, ((List.getD a3 t3 ((0 : Int), ((0 : Int), ((0 : Int), (false, (false, (ByteArray.empty, (0 : Int)))))))).2.1, ((List.getD a3 t3 ((0 : Int), ((0 : Int), ((0 : Int), (false, (false, (ByteArray.empty, (0 : Int)))))))).2.2.1, ((List.getD a3 t3 ((0 : Int), ((0 : Int), ((0 : Int), (false, (false, (ByteArray.empty, (0 : Int)))))))).2.2.2.1, ((List.getD a3 t3 ((0 : Int), ((0 : Int), ((0 : Int), (false, (false, (ByteArray.empty, (0 : Int)))))))).2.2.2.2.1, ((List.getD a3 t3 ((0 : Int), ((0 : Int), ((0 : Int), (false, (false, (ByteArray.empty, (0 : Int)))))))).2.2.2.2.2.1, (IntKind.wrap .i64 ((List.getD a3 t3 ((0 : Int), ((0 : Int), ((0 : Int), (false, (false, (ByteArray.empty, (0 : Int)))))))).2.2.2.2.2.2 - (1 : Int))))))))))] 30
def file_Table_Unref_v1.f (a0 : Int) (a1 : Nat) (a2 : Nat) (a3 : (List (Int × (Int × (Int × (Bool × (Bool × (ByteArray × Int)))))))) : Option (Int × Int × Int × Bool × Bool × ByteArray × Int × Bool × (Option Int) × (List (Int × (Int × (Int × (Bool × (Bool × (ByteArray × Int)))))))) :=
  (file_Table_at_v1.f a0 a1 a2 a3).bind fun t1 =>
  match t1 with
  | .inl t2 =>
    some ((0 : Int), (0 : Int), (0 : Int), false, false, ByteArray.empty, (0 : Int), false, (some t2), a3)
  | .inr t3 =>
    if t3 < a2 then
      if t3 < a2 then
        if t3 < a2 then
          if t3 < a2 then
            some ((List.getD (List.set a3 t3 ((List.getD a3 t3 ((0 : Int), ((0 : Int), ((0 : Int), (false, (false, (ByteArray.empty, (0 : Int)))))))).1, ((List.getD a3 t3 ((0 : Int), ((0 : Int), ((0 : Int), (false, (false, (ByteArray.empty, (0 : Int)))))))).2.1, ((List.getD a3 t3 ((0 : Int), ((0 : Int), ((0 : Int), (false, (false, (ByteArray.empty, (0 : Int)))))))).2.2.1, ((List.getD a3 t3 ((0 : Int), ((0 : Int), ((0 : Int), (false, (false, (ByteArray.empty, (0 : Int)))))))).2.2.2.1, ((List.getD a3 t3 ((0 : Int), ((0 : Int), ((0 : Int), (false, (false, (ByteArray.empty, (0 : Int)))))))).2.2.2.2.1, ((List.getD a3 t3 ((0 : Int), ((0 : Int), ((0 : Int), (false, (false, (ByteArray.empty, (0 : Int)))))))).2.2.2.2.2.1, (IntKind.wrap .i64 ((List.getD a3 t3 ((0 : Int), ((0 : Int), ((0 : Int), (false, (false, (ByteArray.empty, (0 : Int)))))))).2.2.2.2.2.2 - (1 : Int)))))))))) t3 ((0 : Int), ((0 : Int), ((0 : Int), (false, (false, (ByteArray.empty, (0 : Int)))))))).1, (List.getD (List.set a3 t3 ((List.getD a3 t3 ((0 : Int), ((0 : Int), ((0 : Int), (false, (false, (ByteArray.empty, (0 : Int)))))))).1, ((List.getD a3 t3 ((0 : Int), ((0 : Int), ((0 : Int), (false, (false, (ByteArray.empty, (0 : Int)))))))).2.1, ((List.getD a3 t3 ((0 : Int), ((0 : Int), ((0 : Int), (false, (false, (ByteArray.empty, (0 : Int)))))))).2.2.1, ((List.getD a3 t3 ((0 : Int), ((0 : Int), ((0 : Int), (false, (false, (ByteArray.empty, (0 : Int)))))))).2.2.2.1, ((List.getD a3 t3 ((0 : Int), ((0 : Int), ((0 : Int), (false, (false, (ByteArray.empty, (0 : Int)))))))).2.2.2.2.1, ((List.getD a3 t3 ((0 : Int), ((0 : Int), ((0 : Int), (false, (false, (ByteArray.empty, (0 : Int)))))))).2.2.2.2.2.1, (IntKind.wrap .i64 ((List.getD a3 t3 ((0 : Int), ((0 : Int), ((0 : Int), (false, (false, (ByteArray.empty, (0 : Int)))))))).2.2.2.2.2.2 - (1 : Int)))))))))) t3 ((0 : Int), ((0 : Int), ((0 : Int), (false, (false, (ByteArray.empty, (0 : Int)))))))).2.1, (List.getD (List.set a3 t3 ((List.getD a3 t3 ((0 : Int), ((0 : Int), ((0 : Int), (false, (false, (ByteArray.empty, (0 : Int)))))))).1, ((List.getD a3 t3 ((0 : Int), ((0 : Int), ((0 : Int), (false, (false, (ByteArray.empty, (0 : Int)))))))).2.1, ((List.getD a3 t3 ((0 : Int), ((0 : Int), ((0 : Int), (false, (false, (ByteArray.empty, (0 : Int)))))))).2.2.1, ((List.getD a3 t3 ((0 : Int), ((0 : Int), ((0 : Int), (false, (false, (ByteArray.empty, (0 : Int)))))))).2.2.2.1, ((List.getD a3 t3 ((0 : Int), ((0 : Int), ((0 : Int), (false, (false, (ByteArray.empty, (0 : Int)))))))).2.2.2.2.1, ((List.getD a3 t3 ((0 : Int), ((0 : Int), ((0 : Int), (false, (false, (ByteArray.empty, (0 : Int)))))))).2.2.2.2.2.1, (IntKind.wrap .i64 ((List.getD a3 t3 ((0 : Int), ((0 : Int), ((0 : Int), (false, (false, (ByteArray.empty, (0 : Int)))))))).2.2.2.2.2.2 - (1 : Int)))))))))) t3 ((0 : Int), ((0 : Int), ((0 : Int), (false, (false, (ByteArray.empty, (0 : Int)))))))).2.2.1, (List.getD (List.set a3 t3 ((List.getD a3 t3 ((0 : Int), ((0 : Int), ((0 : Int), (false, (false, (ByteArray.empty, (0 : Int)))))))).1, ((List.getD a3 t3 ((0 : Int), ((0 : Int), ((0 : Int), (false, (false, (ByteArray.empty, (0 : Int)))))))).2.1, ((List.getD a3 t3 ((0 : Int), ((0 : Int), ((0 : Int), (false, (false, (ByteArray.empty, (0 : Int)))))))).2.2.1, ((List.getD a3 t3 ((0 : Int), ((0 : Int), ((0 : Int), (false, (false, (ByteArray.empty, (0 : Int)))))))).2.2.2.1, ((List.getD a3 t3 ((0 : Int), ((0 : Int), ((0 : Int), (false, (false, (ByteArray.empty, (0 : Int)))))))).2.2.2.2.1, ((List.getD a3 t3 ((0 : Int), ((0 : Int), ((0 : Int), (false, (false, (ByteArray.empty, (0 : Int)))))))).2.2.2.2.2.1, (IntKind.wrap .i64 ((List.getD a3 t3 ((0 : Int), ((0 : Int), ((0 : Int), (false, (false, (ByteArray.empty, (0 : Int)))))))).2.2.2.2.2.2 - (1 : Int)))))))))) t3 ((0 : Int), ((0 : Int), ((0 : Int), (false, (false, (ByteArray.empty, (0 : Int)))))))).2.2.2.1, (List.getD (List.set a3 t3 ((List.getD a3 t3 ((0 : Int), ((0 : Int), ((0 : Int), (false, (false, (ByteArray.empty, (0 : Int)))))))).1, ((List.getD a3 t3 ((0 : Int), ((0 : Int), ((0 : Int), (false, (false, (ByteArray.empty, (0 : Int)))))))).2.1, ((List.getD a3 t3 ((0 : Int), ((0 : Int), ((0 : Int), (false, (false, (ByteArray.empty, (0 : Int)))))))).2.2.1, ((List.getD a3 t3 ((0 : Int), ((0 : Int), ((0 : Int), (false, (false, (ByteArray.empty, (0 : Int)))))))).2.2.2.1, ((List.getD a3 t3 ((0 : Int), ((0 : Int), ((0 : Int), (false, (false, (ByteArray.empty, (0 : Int)))))))).2.2.2.2.1, ((List.getD a3 t3 ((0 : Int), ((0 : Int), ((0 : Int), (false, (false, (ByteArray.empty, (0 : Int)))))))).2.2.2.2.2.1, (IntKind.wrap .i64 ((List.getD a3 t3 ((0 : Int), ((0 : Int), ((0 : Int), (false, (false, (ByteArray.empty, (0 : Int)))))))).2.2.2.2.2.2 - (1 : Int)))))))))) t3 ((0 : Int), ((0 : Int), ((0 : Int), (false, (false, (ByteArray.empty, (0 : Int)))))))).2.2.2.2.1, (List.getD (List.set a3 t3 ((List.getD a3 t3 ((0 : Int), ((0 : Int), ((0 : Int), (false, (false, (ByteArray.empty, (0 : Int)))))))).1, ((List.getD a3 t3 ((0 : Int), ((0 : Int), ((0 : Int), (false, (false, (ByteArray.empty, (0 : Int)))))))).2.1, ((List.getD a3 t3 ((0 : Int), ((0 : Int), ((0 : Int), (false, (false, (ByteArray.empty, (0 : Int)))))))).2.2.1, ((List.getD a3 t3 ((0 : Int), ((0 : Int), ((0 : Int), (false, (false, (ByteArray.empty, (0 : Int)))))))).2.2.2.1, ((List.getD a3 t3 ((0 : Int), ((0 : Int), ((0 : Int), (false, (false, (ByteArray.empty, (0 : Int)))))))).2.2.2.2.1, ((List.getD a3 t3 ((0 : Int), ((0 : Int), ((0 : Int), (false, (false, (ByteArray.empty, (0 : Int)))))))).2.2.2.2.2.1, (IntKind.wrap .i64 ((List.getD a3 t3 ((0 : Int), ((0 : Int), ((0 : Int), (false, (false, (ByteArray.empty, (0 : Int)))))))).2.2.2.2.2.2 - (1 : Int)))))))))) t3 ((0 : Int), ((0 : Int), ((0 : Int), (false, (false, (ByteArray.empty, (0 : Int)))))))).2.2.2.2.2.1, (List.getD (List.set a3 t3 ((List.getD a3 t3 ((0 : Int), ((0 : Int), ((0 : Int), (false, (false, (ByteArray.empty, (0 : Int)))))))).1, ((List.getD a3 t3 ((0 : Int), ((0 : Int), ((0 : Int), (false, (false, (ByteArray.empty, (0 : Int)))))))).2.1, ((List.getD a3 t3 ((0 : Int), ((0 : Int), ((0 : Int), (false, (false, (ByteArray.empty, (0 : Int)))))))).2.2.1, ((List.getD a3 t3 ((0 : Int), ((0 : Int), ((0 : Int), (false, (false, (ByteArray.empty, (0 : Int)))))))).2.2.2.1, ((List.getD a3 t3 ((0 : Int), ((0 : Int), ((0 : Int), (false, (false, (ByteArray.empty, (0 : Int)))))))).2.2.2.2.1, ((List.getD a3 t3 ((0 : Int), ((0 : Int), ((0 : Int), (false, (false, (ByteArray.empty, (0 : Int)))))))).2.2.2.2.2.1, (IntKind.wrap .i64 ((List.getD a3 t3 ((0 : Int), ((0 : Int), ((0 : Int), (false, (false, (ByteArray.empty, (0 : Int)))))))).2.2.2.2.2.2 - (1 : Int)))))))))) t3 ((0 : Int), ((0 : Int), ((0 : Int), (false, (false, (ByteArray.empty, (0 : Int)))))))).2.2.2.2.2.2, ((List.getD (List.set a3 t3 ((List.getD a3 t3 ((0 : Int), ((0 : Int), ((0 : Int), (false, (false, (ByteArray.empty, (0 : Int)))))))).1, ((List.getD a3 t3 ((0 : Int), ((0 : Int), ((0 : Int), (false, (false, (ByteArray.empty, (0 : Int)))))))).2.1, ((List.getD a3 t3 ((0 : Int), ((0 : Int), ((0 : Int), (false, (false, (ByteArray.empty, (0 : Int)))))))).2.2.1, ((List.getD a3 t3 ((0 : Int), ((0 : Int), ((0 : Int), (false, (false, (ByteArray.empty, (0 : Int)))))))).2.2.2.1, ((List.getD a3 t3 ((0 : Int), ((0 : Int), ((0 : Int), (false, (false, (ByteArray.empty, (0 : Int)))))))).2.2.2.2.1, ((List.getD a3 t3 ((0 : Int), ((0 : Int), ((0 : Int), (false, (false, (ByteArray.empty, (0 : Int)))))))).2.2.2.2.2.1, (IntKind.wrap .i64 ((List.getD a3 t3 ((0 : Int), ((0 : Int), ((0 : Int), (false, (false, (ByteArray.empty, (0 : Int)))))))).2.2.2.2.2.2 - (1 : Int)))))))))) t3 ((0 : Int), ((0 : Int), ((0 : Int), (false, (false, (ByteArray.empty, (0 : Int)))))))).2.2.2.2.2.2 == (0 : Int)), none, (List.set a3 t3 ((List.getD a3 t3 ((0 : Int), ((0 : Int), ((0 : Int), (false, (false, (ByteArray.empty, (0 : Int)))))))).1, ((List.getD a3 t3 ((0 : Int), ((0 : Int), ((0 : Int), (false, (false, (ByteArray.empty, (0 : Int)))))))).2.1, ((List.getD a3 t3 ((0 : Int), ((0 : Int), ((0 : Int), (false, (false, (ByteArray.empty, (0 : Int)))))))).2.2.1, ((List.getD a3 t3 ((0 : Int), ((0 : Int), ((0 : Int), (false, (false, (ByteArray.empty, (0 : Int)))))))).2.2.2.1, ((List.getD a3 t3 ((0 : Int), ((0 : Int), ((0 : Int), (false, (false, (ByteArray.empty, (0 : Int)))))))).2.2.2.2.1, ((List.getD a3 t3 ((0 : Int), ((0 : Int), ((0 : Int), (false, (false, (ByteArray.empty, (0 : Int)))))))).2.2.2.2.2.1, (IntKind.wrap .i64 ((List.getD a3 t3 ((0 : Int), ((0 : Int), ((0 : Int), (false, (false, (ByteArray.empty, (0 : Int)))))))).2.2.2.2.2.2 - (1 : Int)))))))))))
          else none
        else none
      else none
    else none
def file_Table_Unref_v1.R (r : Int × Int × Int × Bool × Bool × ByteArray × Int × Bool × (Option Int) × (List (Int × (Int × (Int × (Bool × (Bool × (ByteArray × Int)))))))) : Tm := .tup [.agg [.c (.sc (.int .i64 r.1)), .c (.sc (.int .i64 r.2.1)), .c (.sc (.int .i64 r.2.2.1)), .c (.sc (.bool r.2.2.2.1)), .c (.sc (.bool r.2.2.2.2.1)), .c (.sc (.string r.2.2.2.2.2.1)), .c (.sc (.int .i64 r.2.2.2.2.2.2.1))], .one (.sc (.bool r.2.2.2.2.2.2.2.1)), .one (.err r.2.2.2.2.2.2.2.2.1)]
def file_Table_Unref_v1.B (a0 : Int) (a1 : Nat) (a2 : Nat) (a3 : (List (Int × (Int × (Int × (Bool × (Bool × (ByteArray × Int)))))))) (r : Int × Int × Int × Bool × Bool × ByteArray × Int × Bool × (Option Int) × (List (Int × (Int × (Int × (Bool × (Bool × (ByteArray × Int)))))))) : List Box := [.ex false [.c (.os 1 0 0 7 a1 none)] 72, .ex false [.row a2 (.pair (.int .i64) (.pair (.int .i64) (.pair (.int .i64) (.pair .bool (.pair .bool (.pair .str (.int .i64))))))) r.2.2.2.2.2.2.2.2.2] 30]
theorem file_Table_Unref_v1.fun_ {a0 : Int} {a1 : Nat} {a2 : Nat} {a3 : (List (Int × (Int × (Int × (Bool × (Bool × (ByteArray × Int)))))))} {r : Int × Int × Int × Bool × Bool × ByteArray × Int × Bool × (Option Int) × (List (Int × (Int × (Int × (Bool × (Bool × (ByteArray × Int)))))))} (h : file_Table_Unref_v1.f a0 a1 a2 a3 = some r) : Fun cfg 14 [.one (.ptr 0 ⟨0, 0, 0, 0⟩), .one (.sc (.int .i64 a0))] [.ex false [.c (.os 1 0 0 7 a1 none)] 72, .ex false [.row a2 (.pair (.int .i64) (.pair (.int .i64) (.pair (.int .i64) (.pair .bool (.pair .bool (.pair .str (.int .i64))))))) a3] 30] (file_Table_Unref_v1.R r) (file_Table_Unref_v1.B a0 a1 a2 a3 r) := by
  unfold file_Table_Unref_v1.f at h
  refine fun_of_run cfg_ok (f := 14) (fn := Tryd.f14) Tryd.func14 rfl (by kernel_rfl) (rs := [.cell 4 30, .tmp 5, .tmp 6]) rfl (nt := 34) rfl (l := fin) (k := (.alt (.callR true [] [0, 1] (Int) (fun t2 => (file_Table_at_v1.R (.inl t2))) (fun t2 => (file_Table_at_v1.B a0 a1 a2 a3 (.inl t2))) (fun t2 => (.one true (.adj [] (.adj [] (.adj [.drop 2] .nil)))))) (.callR true [] [0, 1] (Nat) (fun t3 => (file_Table_at_v1.R (.inr t3))) (fun t3 => (file_Table_at_v1.B a0 a1 a2 a3 (.inr t3))) (fun t3 => (.one false (.drP [(0, dN), (1, dN), (3, dN), (4, dN), (5, dN), (2, dN), (6, ⟨none, .no, true⟩), (7, dN), (8, ⟨none, .no, true⟩), (9, dN), (10, dN)] [([0, 1, 3, 4, 5, 2, 8, 6, 7, 9, 10], [0, 1, 2])] ⟨[.v (.one (.ptr 0 ⟨0, 0, 0, 0⟩)), .v (.one (.sc (.int .i64 a0))), .any, .any, .v (.one (.ptr 2 ⟨0, 0, 0, 0⟩)), .v (.one (.sc (.bool (file_Table_Unref_v1.c0 a3 t3)))), .v (.one (.err none)), .v (.one (.ptr 1 ⟨0, t3, 7, 0⟩)), .v (.one (.err none)), .tup [.one (.ptr 1 ⟨0, t3, 7, 0⟩), .one (.err none)], .v (.one (.ptr 0 ⟨0, 0, 0, 0⟩)), .v (.one (.sc (.int .i64 a0))), .tup [.one (.ptr 1 ⟨0, t3, 7, 0⟩), .one (.err none)], .v (.one (.ptr 1 ⟨0, t3, 7, 0⟩)), .v (.one (.err none)), .v (.one (.err none)), .v (.one (.sc (.bool false))), .any, .any, .v (.one (.ptr 1 ⟨0, t3, 7, 0⟩)), .v (.one (.ptr 1 ⟨0, t3, 7, 0⟩)), .v (.one (.ptr 1 ⟨0, t3, 7, 6⟩)), .v (.one (.sc (.int .i64 (List.getD a3 t3 ((0 : Int), ((0 : Int), ((0 : Int), (false, (false, (ByteArray.empty, (0 : Int)))))))).2.2.2.2.2.2))), .v (.one (.sc (.int .i64 (IntKind.wrap .i64 ((List.getD a3 t3 ((0 : Int), ((0 : Int), ((0 : Int), (false, (false, (ByteArray.empty, (0 : Int)))))))).2.2.2.2.2.2 - (1 : Int)))))), .v (.one (.ptr 1 ⟨0, t3, 7, 0⟩)), .v (.one (.ptr 1 ⟨0, t3, 7, 6⟩)), .v (.one (.ptr 1 ⟨0, t3, 7, 0⟩)), .v (.one (.ptr 1 ⟨0, t3, 7, 0⟩)), .v (.agg [.c (.sc (.int .i64 (List.getD (List.set a3 t3 ((List.getD a3 t3 ((0 : Int), ((0 : Int), ((0 : Int), (false, (false, (ByteArray.empty, (0 : Int)))))))).1, ((List.getD a3 t3 ((0 : Int), ((0 : Int), ((0 : Int), (false, (false, (ByteArray.empty, (0 : Int)))))))).2.1, ((List.getD a3 t3 ((0 : Int), ((0 : Int), ((0 : Int), (false, (false, (ByteArray.empty, (0 : Int)))))))).2.2.1, ((List.getD a3 t3 ((0 : Int), ((0 : Int), ((0 : Int), (false, (false, (ByteArray.empty, (0 : Int)))))))).2.2.2.1, ((List.getD a3 t3 ((0 : Int), ((0 : Int), ((0 : Int), (false, (false, (ByteArray.empty, (0 : Int)))))))).2.2.2.2.1, ((List.getD a3 t3 ((0 : Int), ((0 : Int), ((0 : Int), (false, (false, (ByteArray.empty, (0 : Int)))))))).2.2.2.2.2.1, (IntKind.wrap .i64 ((List.getD a3 t3 ((0 : Int), ((0 : Int), ((0 : Int), (false, (false, (ByteArray.empty, (0 : Int)))))))).2.2.2.2.2.2 - (1 : Int)))))))))) t3 ((0 : Int), ((0 : Int), ((0 : Int), (false, (false, (ByteArray.empty, (0 : Int)))))))).1)), .c (.sc (.int .i64 (List.getD (List.set a3 t3 ((List.getD a3 t3 ((0 : Int), ((0 : Int), ((0 : Int), (false, (false, (ByteArray.empty, (0 : Int)))))))).1, ((List.getD a3 t3 ((0 : Int), ((0 : Int), ((0 : Int), (false, (false, (ByteArray.empty, (0 : Int)))))))).2.1, ((List.getD a3 t3 ((0 : Int), ((0 : Int), ((0 : Int), (false, (false, (ByteArray.empty, (0 : Int)))))))).2.2.1, ((List.getD a3 t3 ((0 : Int), ((0 : Int), ((0 : Int), (false, (false, (ByteArray.empty, (0 : Int)))))))).2.2.2.1, ((List.getD a3 t3 ((0 : Int), ((0 : Int), ((0 : Int), (false, (false, (ByteArray.empty, (0 : Int)))))))).2.2.2.2.1, ((List.getD a3 t3 ((0 : Int), ((0 : Int), ((0 : Int), (false, (false, (ByteArray.empty, (0 : Int)))))))).2.2.2.2.2.1, (IntKind.wrap .i64 ((List.getD a3 t3 ((0 : Int), ((0 : Int), ((0 : Int), (false, (false, (ByteArray.empty, (0 : Int)))))))).2.2.2.2.2.2 - (1 : Int)))))))))) t3 ((0 : Int), ((0 : Int), ((0 : Int), (false, (false, (ByteArray.empty, (0 : Int)))))))).2.1)), .c (.sc (.int .i64 (List.getD (List.set a3 t3 ((List.getD a3 t3 ((0 : Int), ((0 : Int), ((0 : Int), (false, (false, (ByteArray.empty, (0 : Int)))))))).1, ((List.getD a3 t3 ((0 : Int), ((0 : Int), ((0 : Int), (false, (false, (ByteArray.empty, (0 : Int)))))))).2.1, ((List.getD a3 t3 ((0 : Int), ((0 : Int), ((0 : Int), (false, (false, (ByteArray.empty, (0 : Int)))))))).2.2.1, ((List.getD a3 t3 ((0 : Int), ((0 : Int), ((0 : Int), (false, (false, (ByteArray.empty, (0 : Int)))))))).2.2.2.1, ((List.getD a3 t3 ((0 : Int), ((0 : Int), ((0 : Int), (false, (false, (ByteArray.empty, (0 : Int)))))))).2.2.2.2.1, ((List.getD a3 t3 ((0 : Int), ((0 : Int), ((0 : Int), (false, (false, (ByteArray.empty, (0 : Int)))))))).2.2.2.2.2.1, (IntKind.wrap .i64 ((List.getD a3 t3 ((0 : Int), ((0 : Int), ((0 : Int), (false, (false, (ByteArray.empty, (0 : Int)))))))).2.2.2.2.2.2 - (1 : Int)))))))))) t3 ((0 : Int), ((0 : Int), ((0 : Int), (false, (false, (ByteArray.empty, (0 : Int)))))))).2.2.1)), .c (.sc (.bool (file_Table_Unref_v1.c2 a3 t3))), .c (.sc (.bool (file_Table_Unref_v1.c1 a3 t3))), .c (.sc (.string (List.getD (List.set a3 t3 ((List.getD a3 t3 ((0 : Int), ((0 : Int), ((0 : Int), (false, (false, (ByteArray.empty, (0 : Int)))))))).1, ((List.getD a3 t3 ((0 : Int), ((0 : Int), ((0 : Int), (false, (false, (ByteArray.empty, (0 : Int)))))))).2.1, ((List.getD a3 t3 ((0 : Int), ((0 : Int), ((0 : Int), (false, (false, (ByteArray.empty, (0 : Int)))))))).2.2.1, ((List.getD a3 t3 ((0 : Int), ((0 : Int), ((0 : Int), (false, (false, (ByteArray.empty, (0 : Int)))))))).2.2.2.1, ((List.getD a3 t3 ((0 : Int), ((0 : Int), ((0 : Int), (false, (false, (ByteArray.empty, (0 : Int)))))))).2.2.2.2.1, ((List.getD a3 t3 ((0 : Int), ((0 : Int), ((0 : Int), (false, (false, (ByteArray.empty, (0 : Int)))))))).2.2.2.2.2.1, (IntKind.wrap .i64 ((List.getD a3 t3 ((0 : Int), ((0 : Int), ((0 : Int), (false, (false, (ByteArray.empty, (0 : Int)))))))).2.2.2.2.2.2 - (1 : Int)))))))))) t3 ((0 : Int), ((0 : Int), ((0 : Int), (false, (false, (ByteArray.empty, (0 : Int)))))))).2.2.2.2.2.1)), .c (.sc (.int .i64 (List.getD (List.set a3 t3 ((List.getD a3 t3 ((0 : Int), ((0 : Int), ((0 : Int), (false, (false, (ByteArray.empty, (0 : Int)))))))).1, ((List.getD a3 t3 ((0 : Int), ((0 : Int), ((0 : Int), (false, (false, (ByteArray.empty, (0 : Int)))))))).2.1, ((List.getD a3 t3 ((0 : Int), ((0 : Int), ((0 : Int), (false, (false, (ByteArray.empty, (0 : Int)))))))).2.2.1, ((List.getD a3 t3 ((0 : Int), ((0 : Int), ((0 : Int), (false, (false, (ByteArray.empty, (0 : Int)))))))).2.2.2.1, ((List.getD a3 t3 ((0 : Int), ((0 : Int), ((0 : Int), (false, (false, (ByteArray.empty, (0 : Int)))))))).2.2.2.2.1, ((List.getD a3 t3 ((0 : Int), ((0 : Int), ((0 : Int), (false, (false, (ByteArray.empty, (0 : Int)))))))).2.2.2.2.2.1, (IntKind.wrap .i64 ((List.getD a3 t3 ((0 : Int), ((0 : Int), ((0 : Int), (false, (false, (ByteArray.empty, (0 : Int)))))))).2.2.2.2.2.2 - (1 : Int)))))))))) t3 ((0 : Int), ((0 : Int), ((0 : Int), (false, (false, (ByteArray.empty, (0 : Int)))))))).2.2.2.2.2.2))]), .v (.one (.ptr 1 ⟨0, t3, 7, 0⟩)), .v (.one (.ptr 1 ⟨0, t3, 7, 0⟩)), .v (.one (.ptr 1 ⟨0, t3, 7, 6⟩)), .v (.one (.sc (.int .i64 (List.getD (List.set a3 t3 ((List.getD a3 t3 ((0 : Int), ((0 : Int), ((0 : Int), (false, (false, (ByteArray.empty, (0 : Int)))))))).1, ((List.getD a3 t3 ((0 : Int), ((0 : Int), ((0 : Int), (false, (false, (ByteArray.empty, (0 : Int)))))))).2.1, ((List.getD a3 t3 ((0 : Int), ((0 : Int), ((0 : Int), (false, (false, (ByteArray.empty, (0 : Int)))))))).2.2.1, ((List.getD a3 t3 ((0 : Int), ((0 : Int), ((0 : Int), (false, (false, (ByteArray.empty, (0 : Int)))))))).2.2.2.1, ((List.getD a3 t3 ((0 : Int), ((0 : Int), ((0 : Int), (false, (false, (ByteArray.empty, (0 : Int)))))))).2.2.2.2.1, ((List.getD a3 t3 ((0 : Int), ((0 : Int), ((0 : Int), (false, (false, (ByteArray.empty, (0 : Int)))))))).2.2.2.2.2.1, (IntKind.wrap .i64 ((List.getD a3 t3 ((0 : Int), ((0 : Int), ((0 : Int), (false, (false, (ByteArray.empty, (0 : Int)))))))).2.2.2.2.2.2 - (1 : Int)))))))))) t3 ((0 : Int), ((0 : Int), ((0 : Int), (false, (false, (ByteArray.empty, (0 : Int)))))))).2.2.2.2.2.2))), .v (.one (.sc (.bool (file_Table_Unref_v1.c0 a3 t3))))], [.ex false [.c (.os 1 0 0 7 a1 none)] 72, .ex false [.row a2 (.pair (.int .i64) (.pair (.int .i64) (.pair (.int .i64) (.pair .bool (.pair .bool (.pair .str (.int .i64))))))) (List.set a3 t3 ((List.getD a3 t3 ((0 : Int), ((0 : Int), ((0 : Int), (false, (false, (ByteArray.empty, (0 : Int)))))))).1, ((List.getD a3 t3 ((0 : Int), ((0 : Int), ((0 : Int), (false, (false, (ByteArray.empty, (0 : Int)))))))).2.1, ((List.getD a3 t3 ((0 : Int), ((0 : Int), ((0 : Int), (false, (false, (ByteArray.empty, (0 : Int)))))))).2.2.1, ((List.getD a3 t3 ((0 : Int), ((0 : Int), ((0 : Int), (false, (false, (ByteArray.empty, (0 : Int)))))))).2.2.2.1, ((List.getD a3 t3 ((0 : Int), ((0 : Int), ((0 : Int), (false, (false, (ByteArray.empty, (0 : Int)))))))).2.2.2.2.1, ((List.getD a3 t3 ((0 : Int), ((0 : Int), ((0 : Int), (false, (false, (ByteArray.empty, (0 : Int)))))))).2.2.2.2.2.1, (IntKind.wrap .i64 ((List.getD a3 t3 ((0 : Int), ((0 : Int), ((0 : Int), (false, (false, (ByteArray.empty, (0 : Int)))))))).2.2.2.2.2.2 - (1 : Int))))))))))] 30, .ex false [.c (.sc (.int .i64 (List.getD (List.set a3 t3 ((List.getD a3 t3 ((0 : Int), ((0 : Int), ((0 : Int), (false, (false, (ByteArray.empty, (0 : Int)))))))).1, ((List.getD a3 t3 ((0 : Int), ((0 : Int), ((0 : Int), (false, (false, (ByteArray.empty, (0 : Int)))))))).2.1, ((List.getD a3 t3 ((0 : Int), ((0 : Int), ((0 : Int), (false, (false, (ByteArray.empty, (0 : Int)))))))).2.2.1, ((List.getD a3 t3 ((0 : Int), ((0 : Int), ((0 : Int), (false, (false, (ByteArray.empty, (0 : Int)))))))).2.2.2.1, ((List.getD a3 t3 ((0 : Int), ((0 : Int), ((0 : Int), (false, (false, (ByteArray.empty, (0 : Int)))))))).2.2.2.2.1, ((List.getD a3 t3 ((0 : Int), ((0 : Int), ((0 : Int), (false, (false, (ByteArray.empty, (0 : Int)))))))).2.2.2.2.2.1, (IntKind.wrap .i64 ((List.getD a3 t3 ((0 : Int), ((0 : Int), ((0 : Int), (false, (false, (ByteArray.empty, (0 : Int)))))))).2.2.2.2.2.2 - (1 : Int)))))))))) t3 ((0 : Int), ((0 : Int), ((0 : Int), (false, (false, (ByteArray.empty, (0 : Int)))))))).1)), .c (.sc (.int .i64 (List.getD (List.set a3 t3 ((List.getD a3 t3 ((0 : Int), ((0 : Int), ((0 : Int), (false, (false, (ByteArray.empty, (0 : Int)))))))).1, ((List.getD a3 t3 ((0 : Int), ((0 : Int), ((0 : Int), (false, (false, (ByteArray.empty, (0 : Int)))))))).2.1, ((List.getD a3 t3 ((0 : Int), ((0 : Int), ((0 : Int), (false, (false, (ByteArray.empty, (0 : Int)))))))).2.2.1, ((List.getD a3 t3 ((0 : Int), ((0 : Int), ((0 : Int), (false, (false, (ByteArray.empty, (0 : Int)))))))).2.2.2.1, ((List.getD a3 t3 ((0 : Int), ((0 : Int), ((0 : Int), (false, (false, (ByteArray.empty, (0 : Int)))))))).2.2.2.2.1, ((List.getD a3 t3 ((0 : Int), ((0 : Int), ((0 : Int), (false, (false, (ByteArray.empty, (0 : Int)))))))).2.2.2.2.2.1, (IntKind.wrap .i64 ((List.getD a3 t3 ((0 : Int), ((0 : Int), ((0 : Int), (false, (false, (ByteArray.empty, (0 : Int)))))))).2.2.2.2.2.2 - (1 : Int)))))))))) t3 ((0 : Int), ((0 : Int), ((0 : Int), (false, (false, (ByteArray.empty, (0 : Int)))))))).2.1)), .c (.sc (.int .i64 (List.getD (List.set a3 t3 ((List.getD a3 t3 ((0 : Int), ((0 : Int), ((0 : Int), (false, (false, (ByteArray.empty, (0 : Int)))))))).1, ((List.getD a3 t3 ((0 : Int), ((0 : Int), ((0 : Int), (false, (false, (ByteArray.empty, (0 : Int)))))))).2.1, ((List.getD a3 t3 ((0 : Int), ((0 : Int), ((0 : Int), (false, (false, (ByteArray.empty, (0 : Int)))))))).2.2.1, ((List.getD a3 t3 ((0 : Int), ((0 : Int), ((0 : Int), (false, (false, (ByteArray.empty, (0 : Int)))))))).2.2.2.1, ((List.getD a3 t3 ((0 : Int), ((0 : Int), ((0 : Int), (false, (false, (ByteArray.empty, (0 : Int)))))))).2.2.2.2.1, ((List.getD a3 t3 ((0 : Int), ((0 : Int), ((0 : Int), (false, (false, (ByteArray.empty, (0 : Int)))))))).2.2.2.2.2.1, (IntKind.wrap .i64 ((List.getD a3 t3 ((0 : Int), ((0 : Int), ((0 : Int), (false, (false, (ByteArray.empty, (0 : Int)))))))).2.2.2.2.2.2 - (1 : Int)))))))))) t3 ((0 : Int), ((0 : Int), ((0 : Int), (false, (false, (ByteArray.empty, (0 : Int)))))))).2.2.1)), .c (.sc (.bool (file_Table_Unref_v1.c2 a3 t3))), .c (.sc (.bool (file_Table_Unref_v1.c1 a3 t3))), .c (.sc (.string (List.getD (List.set a3 t3 ((List.getD a3 t3 ((0 : Int), ((0 : Int), ((0 : Int), (false, (false, (ByteArray.empty, (0 : Int)))))))).1, ((List.getD a3 t3 ((0 : Int), ((0 : Int), ((0 : Int), (false, (false, (ByteArray.empty, (0 : Int)))))))).2.1, ((List.getD a3 t3 ((0 : Int), ((0 : Int), ((0 : Int), (false, (false, (ByteArray.empty, (0 : Int)))))))).2.2.1, ((List.getD a3 t3 ((0 : Int), ((0 : Int), ((0 : Int), (false, (false, (ByteArray.empty, (0 : Int)))))))).2.2.2.1, ((List.getD a3 t3 ((0 : Int), ((0 : Int), ((0 : Int), (false, (false, (ByteArray.empty, (0 : Int)))))))).2.2.2.2.1, ((List.getD a3 t3 ((0 : Int), ((0 : Int), ((0 : Int), (false, (false, (ByteArray.empty, (0 : Int)))))))).2.2.2.2.2.1, (IntKind.wrap .i64 ((List.getD a3 t3 ((0 : Int), ((0 : Int), ((0 : Int), (false, (false, (ByteArray.empty, (0 : Int)))))))).2.2.2.2.2.2 - (1 : Int)))))))))) t3 ((0 : Int), ((0 : Int), ((0 : Int), (false, (false, (ByteArray.empty, (0 : Int)))))))).2.2.2.2.2.1)), .c (.sc (.int .i64 (List.getD (List.set a3 t3 ((List.getD a3 t3 ((0 : Int), ((0 : Int), ((0 : Int), (false, (false, (ByteArray.empty, (0 : Int)))))))).1, ((List.getD a3 t3 ((0 : Int), ((0 : Int), ((0 : Int), (false, (false, (ByteArray.empty, (0 : Int)))))))).2.1, ((List.getD a3 t3 ((0 : Int), ((0 : Int), ((0 : Int), (false, (false, (ByteArray.empty, (0 : Int)))))))).2.2.1, ((List.getD a3 t3 ((0 : Int), ((0 : Int), ((0 : Int), (false, (false, (ByteArray.empty, (0 : Int)))))))).2.2.2.1, ((List.getD a3 t3 ((0 : Int), ((0 : Int), ((0 : Int), (false, (false, (ByteArray.empty, (0 : Int)))))))).2.2.2.2.1, ((List.getD a3 t3 ((0 : Int), ((0 : Int), ((0 : Int), (false, (false, (ByteArray.empty, (0 : Int)))))))).2.2.2.2.2.1, (IntKind.wrap .i64 ((List.getD a3 t3 ((0 : Int), ((0 : Int), ((0 : Int), (false, (false, (ByteArray.empty, (0 : Int)))))))).2.2.2.2.2.2 - (1 : Int)))))))))) t3 ((0 : Int), ((0 : Int), ((0 : Int), (false, (false, (ByteArray.empty, (0 : Int)))))))).2.2.2.2.2.2))] 30], 2⟩ (.adj [] (.adj [.drop 2] .nil)))))))) (to_goal (q := ((∃ t2 : Int, (Fun cfg 25 [.one (.ptr 0 ⟨0, 0, 0, 0⟩), .one (.sc (.int .i64 a0))] [.ex false [.c (.os 1 0 0 7 a1 none)] 72, .ex false [.row a2 (.pair (.int .i64) (.pair (.int .i64) (.pair (.int .i64) (.pair .bool (.pair .bool (.pair .str (.int .i64))))))) a3] 30] (file_Table_at_v1.R (.inl t2)) (file_Table_at_v1.B a0 a1 a2 a3 (.inl t2)) ∧ True) ∧ (True) ∧ (true = true ∧ (True ∧ (True) ∧ (True ∧ (((True) ∧ True) ∧ ((True) ∧ True) ∧ (.tup [.agg [.c (.sc (.int .i64 (0 : Int))), .c (.sc (.int .i64 (0 : Int))), .c (.sc (.int .i64 (0 : Int))), .c (.sc (.bool false)), .c (.sc (.bool false)), .c (.sc (.string ByteArray.empty)), .c (.sc (.int .i64 (0 : Int)))], .one (.sc (.bool false)), .one (.err (some t2))] : Tm) = file_Table_Unref_v1.R r ∧ ([.ex false [.c (.os 1 0 0 7 a1 none)] 72, .ex false [.row a2 (.pair (.int .i64) (.pair (.int .i64) (.pair (.int .i64) (.pair .bool (.pair .bool (.pair .str (.int .i64))))))) a3] 30] : List Box) = file_Table_Unref_v1.B a0 a1 a2 a3 r))))) ∨ (∃ t3 : Nat, (Fun cfg 25 [.one (.ptr 0 ⟨0, 0, 0, 0⟩), .one (.sc (.int .i64 a0))] [.ex false [.c (.os 1 0 0 7 a1 none)] 72, .ex false [.row a2 (.pair (.int .i64) (.pair (.int .i64) (.pair (.int .i64) (.pair .bool (.pair .bool (.pair .str (.int .i64))))))) a3] 30] (file_Table_at_v1.R (.inr t3)) (file_Table_at_v1.B a0 a1 a2 a3 (.inr t3)) ∧ True) ∧ (True) ∧ (false = false ∧ (t3 < a2) ∧ (True) ∧ (t3 < a2) ∧ (((t3 < a2) ∧ (t3 < a2) ∧ (True) ∧ (True) ∧ (⟨[.v (.one (.ptr 0 ⟨0, 0, 0, 0⟩)), .v (.one (.sc (.int .i64 a0))), .any, .any, .v (.one (.ptr 2 ⟨0, 0, 0, 0⟩)), .v (.one (.sc (.bool (file_Table_Unref_v1.c0 a3 t3)))), .v (.one (.err none)), .v (.one (.ptr 1 ⟨0, t3, 7, 0⟩)), .v (.one (.err none)), .tup [.one (.ptr 1 ⟨0, t3, 7, 0⟩), .one (.err none)], .v (.one (.ptr 0 ⟨0, 0, 0, 0⟩)), .v (.one (.sc (.int .i64 a0))), .tup [.one (.ptr 1 ⟨0, t3, 7, 0⟩), .one (.err none)], .v (.one (.ptr 1 ⟨0, t3, 7, 0⟩)), .v (.one (.err none)), .v (.one (.err none)), .v (.one (.sc (.bool false))), .any, .any, .v (.one (.ptr 1 ⟨0, t3, 7, 0⟩)), .v (.one (.ptr 1 ⟨0, t3, 7, 0⟩)), .v (.one (.ptr 1 ⟨0, t3, 7, 6⟩)), .v (.one (.sc (.int .i64 (List.getD a3 t3 ((0 : Int), ((0 : Int), ((0 : Int), (false, (false, (ByteArray.empty, (0 : Int)))))))).2.2.2.2.2.2))), .v (.one (.sc (.int .i64 (IntKind.wrap .i64 ((List.getD a3 t3 ((0 : Int), ((0 : Int), ((0 : Int), (false, (false, (ByteArray.empty, (0 : Int)))))))).2.2.2.2.2.2 - (1 : Int)))))), .v (.one (.ptr 1 ⟨0, t3, 7, 0⟩)), .v (.one (.ptr 1 ⟨0, t3, 7, 6⟩)), .v (.one (.ptr 1 ⟨0, t3, 7, 0⟩)), .v (.one (.ptr 1 ⟨0, t3, 7, 0⟩)), .v ((file_Table_Unref_v1.c4 a3 t3)), .v (.one (.ptr 1 ⟨0, t3, 7, 0⟩)), .v (.one (.ptr 1 ⟨0, t3, 7, 0⟩)), .v (.one (.ptr 1 ⟨0, t3, 7, 6⟩)), .v (.one (.sc (.int .i64 (List.getD (List.set a3 t3 ((List.getD a3 t3 ((0 : Int), ((0 : Int), ((0 : Int), (false, (false, (ByteArray.empty, (0 : Int)))))))).1, ((List.getD a3 t3 ((0 : Int), ((0 : Int), ((0 : Int), (false, (false, (ByteArray.empty, (0 : Int)))))))).2.1, ((List.getD a3 t3 ((0 : Int), ((0 : Int), ((0 : Int), (false, (false, (ByteArray.empty, (0 : Int)))))))).2.2.1, ((List.getD a3 t3 ((0 : Int), ((0 : Int), ((0 : Int), (false, (false, (ByteArray.empty, (0 : Int)))))))).2.2.2.1, ((List.getD a3 t3 ((0 : Int), ((0 : Int), ((0 : Int), (false, (false, (ByteArray.empty, (0 : Int)))))))).2.2.2.2.1, ((List.getD a3 t3 ((0 : Int), ((0 : Int), ((0 : Int), (false, (false, (ByteArray.empty, (0 : Int)))))))).2.2.2.2.2.1, (IntKind.wrap .i64 ((List.getD a3 t3 ((0 : Int), ((0 : Int), ((0 : Int), (false, (false, (ByteArray.empty, (0 : Int)))))))).2.2.2.2.2.2 - (1 : Int)))))))))) t3 ((0 : Int), ((0 : Int), ((0 : Int), (false, (false, (ByteArray.empty, (0 : Int)))))))).2.2.2.2.2.2))), .v (.one (.sc (.bool (file_Table_Unref_v1.c0 a3 t3))))], [.ex false [.c (.os 1 0 0 7 a1 none)] 72, (file_Table_Unref_v1.c5 a2 a3 t3), (file_Table_Unref_v1.c3 a3 t3)], 2⟩ : St) = ⟨[.v (.one (.ptr 0 ⟨0, 0, 0, 0⟩)), .v (.one (.sc (.int .i64 a0))), .any, .any, .v (.one (.ptr 2 ⟨0, 0, 0, 0⟩)), .v (.one (.sc (.bool (file_Table_Unref_v1.c0 a3 t3)))), .v (.one (.err none)), .v (.one (.ptr 1 ⟨0, t3, 7, 0⟩)), .v (.one (.err none)), .tup [.one (.ptr 1 ⟨0, t3, 7, 0⟩), .one (.err none)], .v (.one (.ptr 0 ⟨0, 0, 0, 0⟩)), .v (.one (.sc (.int .i64 a0))), .tup [.one (.ptr 1 ⟨0, t3, 7, 0⟩), .one (.err none)], .v (.one (.ptr 1 ⟨0, t3, 7, 0⟩)), .v (.one (.err none)), .v (.one (.err none)), .v (.one (.sc (.bool false))), .any, .any, .v (.one (.ptr 1 ⟨0, t3, 7, 0⟩)), .v (.one (.ptr 1 ⟨0, t3, 7, 0⟩)), .v (.one (.ptr 1 ⟨0, t3, 7, 6⟩)), .v (.one (.sc (.int .i64 (List.getD a3 t3 ((0 : Int), ((0 : Int), ((0 : Int), (false, (false, (ByteArray.empty, (0 : Int)))))))).2.2.2.2.2.2))), .v (.one (.sc (.int .i64 (IntKind.wrap .i64 ((List.getD a3 t3 ((0 : Int), ((0 : Int), ((0 : Int), (false, (false, (ByteArray.empty, (0 : Int)))))))).2.2.2.2.2.2 - (1 : Int)))))), .v (.one (.ptr 1 ⟨0, t3, 7, 0⟩)), .v (.one (.ptr 1 ⟨0, t3, 7, 6⟩)), .v (.one (.ptr 1 ⟨0, t3, 7, 0⟩)), .v (.one (.ptr 1 ⟨0, t3, 7, 0⟩)), .v ((file_Table_Unref_v1.c4 a3 t3)), .v (.one (.ptr 1 ⟨0, t3, 7, 0⟩)), .v (.one (.ptr 1 ⟨0, t3, 7, 0⟩)), .v (.one (.ptr 1 ⟨0, t3, 7, 6⟩)), .v (.one (.sc (.int .i64 (List.getD (List.set a3 t3 ((List.getD a3 t3 ((0 : Int), ((0 : Int), ((0 : Int), (false, (false, (ByteArray.empty, (0 : Int)))))))).1, ((List.getD a3 t3 ((0 : Int), ((0 : Int), ((0 : Int), (false, (false, (ByteArray.empty, (0 : Int)))))))).2.1, ((List.getD a3 t3 ((0 : Int), ((0 : Int), ((0 : Int), (false, (false, (ByteArray.empty, (0 : Int)))))))).2.2.1, ((List.getD a3 t3 ((0 : Int), ((0 : Int), ((0 : Int), (false, (false, (ByteArray.empty, (0 : Int)))))))).2.2.2.1, ((List.getD a3 t3 ((0 : Int), ((0 : Int), ((0 : Int), (false, (false, (ByteArray.empty, (0 : Int)))))))).2.2.2.2.1, ((List.getD a3 t3 ((0 : Int), ((0 : Int), ((0 : Int), (false, (false, (ByteArray.empty, (0 : Int)))))))).2.2.2.2.2.1, (IntKind.wrap .i64 ((List.getD a3 t3 ((0 : Int), ((0 : Int), ((0 : Int), (false, (false, (ByteArray.empty, (0 : Int)))))))).2.2.2.2.2.2 - (1 : Int)))))))))) t3 ((0 : Int), ((0 : Int), ((0 : Int), (false, (false, (ByteArray.empty, (0 : Int)))))))).2.2.2.2.2.2))), .v (.one (.sc (.bool (file_Table_Unref_v1.c0 a3 t3))))], [.ex false [.c (.os 1 0 0 7 a1 none)] 72, (file_Table_Unref_v1.c5 a2 a3 t3), (file_Table_Unref_v1.c3 a3 t3)], 2⟩) ∧ (((t3 < a2) ∧ (True) ∧ (t3 < a2) ∧ (True) ∧ True ∧ (⟨[.v (.one (.ptr 0 ⟨0, 0, 0, 0⟩)), .v (.one (.sc (.int .i64 a0))), .any, .any, .v (.one (.ptr 2 ⟨0, 0, 0, 0⟩)), .v (.one (.sc (.bool (file_Table_Unref_v1.c0 a3 t3)))), .v (.one (.err none)), .v (.one (.ptr 1 ⟨0, t3, 7, 0⟩)), .v (.one (.err none)), .tup [.one (.ptr 1 ⟨0, t3, 7, 0⟩), .one (.err none)], .v (.one (.ptr 0 ⟨0, 0, 0, 0⟩)), .v (.one (.sc (.int .i64 a0))), .tup [.one (.ptr 1 ⟨0, t3, 7, 0⟩), .one (.err none)], .v (.one (.ptr 1 ⟨0, t3, 7, 0⟩)), .v (.one (.err none)), .v (.one (.err none)), .v (.one (.sc (.bool false))), .any, .any, .v (.one (.ptr 1 ⟨0, t3, 7, 0⟩)), .v (.one (.ptr 1 ⟨0, t3, 7, 0⟩)), .v (.one (.ptr 1 ⟨0, t3, 7, 6⟩)), .v (.one (.sc (.int .i64 (List.getD a3 t3 ((0 : Int), ((0 : Int), ((0 : Int), (false, (false, (ByteArray.empty, (0 : Int)))))))).2.2.2.2.2.2))), .v (.one (.sc (.int .i64 (IntKind.wrap .i64 ((List.getD a3 t3 ((0 : Int), ((0 : Int), ((0 : Int), (false, (false, (ByteArray.empty, (0 : Int)))))))).2.2.2.2.2.2 - (1 : Int)))))), .v (.one (.ptr 1 ⟨0, t3, 7, 0⟩)), .v (.one (.ptr 1 ⟨0, t3, 7, 6⟩)), .v (.one (.ptr 1 ⟨0, t3, 7, 0⟩)), .v (.one (.ptr 1 ⟨0, t3, 7, 0⟩)), .v ((file_Table_Unref_v1.c4 a3 t3)), .v (.one (.ptr 1 ⟨0, t3, 7, 0⟩)), .v (.one (.ptr 1 ⟨0, t3, 7, 0⟩)), .v (.one (.ptr 1 ⟨0, t3, 7, 6⟩)), .v (.one (.sc (.int .i64 (List.getD (List.set a3 t3 ((List.getD a3 t3 ((0 : Int), ((0 : Int), ((0 : Int), (false, (false, (ByteArray.empty, (0 : Int)))))))).1, ((List.getD a3 t3 ((0 : Int), ((0 : Int), ((0 : Int), (false, (false, (ByteArray.empty, (0 : Int)))))))).2.1, ((List.getD a3 t3 ((0 : Int), ((0 : Int), ((0 : Int), (false, (false, (ByteArray.empty, (0 : Int)))))))).2.2.1, ((List.getD a3 t3 ((0 : Int), ((0 : Int), ((0 : Int), (false, (false, (ByteArray.empty, (0 : Int)))))))).2.2.2.1, ((List.getD a3 t3 ((0 : Int), ((0 : Int), ((0 : Int), (false, (false, (ByteArray.empty, (0 : Int)))))))).2.2.2.2.1, ((List.getD a3 t3 ((0 : Int), ((0 : Int), ((0 : Int), (false, (false, (ByteArray.empty, (0 : Int)))))))).2.2.2.2.2.1, (IntKind.wrap .i64 ((List.getD a3 t3 ((0 : Int), ((0 : Int), ((0 : Int), (false, (false, (ByteArray.empty, (0 : Int)))))))).2.2.2.2.2.2 - (1 : Int)))))))))) t3 ((0 : Int), ((0 : Int), ((0 : Int), (false, (false, (ByteArray.empty, (0 : Int)))))))).2.2.2.2.2.2))), .v (.one (.sc (.bool (file_Table_Unref_v1.c0 a3 t3))))], [.ex false [.c (.os 1 0 0 7 a1 none)] 72, (file_Table_Unref_v1.c5 a2 a3 t3), (file_Table_Unref_v1.c3 a3 t3)], 2⟩ : St) = ⟨[.v (.one (.ptr 0 ⟨0, 0, 0, 0⟩)), .v (.one (.sc (.int .i64 a0))), .any, .any, .v (.one (.ptr 2 ⟨0, 0, 0, 0⟩)), .v (.one (.sc (.bool (file_Table_Unref_v1.c0 a3 t3)))), .v (.one (.err none)), .v (.one (.ptr 1 ⟨0, t3, 7, 0⟩)), .v (.one (.err none)), .tup [.one (.ptr 1 ⟨0, t3, 7, 0⟩), .one (.err none)], .v (.one (.ptr 0 ⟨0, 0, 0, 0⟩)), .v (.one (.sc (.int .i64 a0))), .tup [.one (.ptr 1 ⟨0, t3, 7, 0⟩), .one (.err none)], .v (.one (.ptr 1 ⟨0, t3, 7, 0⟩)), .v (.one (.err none)), .v (.one (.err none)), .v (.one (.sc (.bool false))), .any, .any, .v (.one (.ptr 1 ⟨0, t3, 7, 0⟩)), .v (.one (.ptr 1 ⟨0, t3, 7, 0⟩)), .v (.one (.ptr 1 ⟨0, t3, 7, 6⟩)), .v (.one (.sc (.int .i64 (List.getD a3 t3 ((0 : Int), ((0 : Int), ((0 : Int), (false, (false, (ByteArray.empty, (0 : Int)))))))).2.2.2.2.2.2))), .v (.one (.sc (.int .i64 (IntKind.wrap .i64 ((List.getD a3 t3 ((0 : Int), ((0 : Int), ((0 : Int), (false, (false, (ByteArray.empty, (0 : Int)))))))).2.2.2.2.2.2 - (1 : Int)))))), .v (.one (.ptr 1 ⟨0, t3, 7, 0⟩)), .v (.one (.ptr 1 ⟨0, t3, 7, 6⟩)), .v (.one (.ptr 1 ⟨0, t3, 7, 0⟩)), .v (.one (.ptr 1 ⟨0, t3, 7, 0⟩)), .v ((file_Table_Unref_v1.c4 a3 t3)), .v (.one (.ptr 1 ⟨0, t3, 7, 0⟩)), .v (.one (.ptr 1 ⟨0, t3, 7, 0⟩)), .v (.one (.ptr 1 ⟨0, t3, 7, 6⟩)), .v (.one (.sc (.int .i64 (List.getD (List.set a3 t3 ((List.getD a3 t3 ((0 : Int), ((0 : Int), ((0 : Int), (false, (false, (ByteArray.empty, (0 : Int)))))))).1, ((List.getD a3 t3 ((0 : Int), ((0 : Int), ((0 : Int), (false, (false, (ByteArray.empty, (0 : Int)))))))).2.1, ((List.getD a3 t3 ((0 : Int), ((0 : Int), ((0 : Int), (false, (false, (ByteArray.empty, (0 : Int)))))))).2.2.1, ((List.getD a3 t3 ((0 : Int), ((0 : Int), ((0 : Int), (false, (false, (ByteArray.empty, (0 : Int)))))))).2.2.2.1, ((List.getD a3 t3 ((0 : Int), ((0 : Int), ((0 : Int), (false, (false, (ByteArray.empty, (0 : Int)))))))).2.2.2.2.1, ((List.getD a3 t3 ((0 : Int), ((0 : Int), ((0 : Int), (false, (false, (ByteArray.empty, (0 : Int)))))))).2.2.2.2.2.1, (IntKind.wrap .i64 ((List.getD a3 t3 ((0 : Int), ((0 : Int), ((0 : Int), (false, (false, (ByteArray.empty, (0 : Int)))))))).2.2.2.2.2.2 - (1 : Int)))))))))) t3 ((0 : Int), ((0 : Int), ((0 : Int), (false, (false, (ByteArray.empty, (0 : Int)))))))).2.2.2.2.2.2))), .v (.one (.sc (.bool (file_Table_Unref_v1.c0 a3 t3))))], [.ex false [.c (.os 1 0 0 7 a1 none)] 72, (file_Table_Unref_v1.c5 a2 a3 t3), (file_Table_Unref_v1.c3 a3 t3)], 2⟩) ∧ True) ∧ (True ∧ (((True) ∧ True) ∧ ((True) ∧ True) ∧ (.tup [(file_Table_Unref_v1.c4 a3 t3), .one (.sc (.bool (file_Table_Unref_v1.c0 a3 t3))), .one (.err none)] : Tm) = file_Table_Unref_v1.R r ∧ ([.ex false [.c (.os 1 0 0 7 a1 none)] 72, (file_Table_Unref_v1.c5 a2 a3 t3)] : List Box) = file_Table_Unref_v1.B a0 a1 a2 a3 r))))))) (by kernel_rfl) ?_)
  obtain ⟨t1, ht1, h⟩ := of_bind h
  rcases t1 with t2 | t3
  · dsimp only at h
    left
    refine ⟨t2, ⟨file_Table_at_v1.fun_ ht1, trivial⟩, ?_⟩
    refine ⟨trivial, ?_⟩
    refine ⟨rfl, ?_⟩
    refine ⟨trivial, ?_⟩
    refine ⟨trivial, ?_⟩
    refine ⟨trivial, ?_⟩
    obtain rfl := Option.some.inj h
    exact ⟨⟨trivial, trivial⟩, ⟨trivial, trivial⟩, rfl, rfl⟩
  · dsimp only at h
    right
    refine ⟨t3, ⟨file_Table_at_v1.fun_ ht1, trivial⟩, ?_⟩
    refine ⟨trivial, ?_⟩
    refine ⟨rfl, ?_⟩
    obtain ⟨g7, h⟩ := of_guard h
    refine ⟨g7, ?_⟩
    refine ⟨trivial, ?_⟩
    obtain ⟨g6, h⟩ := of_guard h
    refine ⟨g6, ?_⟩
    obtain ⟨g4, h⟩ := of_guard h
    obtain ⟨g5, h⟩ := of_guard h
    refine ⟨⟨g4, g5, trivial, trivial, rfl⟩, ⟨⟨g4, trivial, g5, trivial, trivial, rfl⟩, trivial⟩, ?_⟩
    refine ⟨trivial, ?_⟩
    obtain rfl := Option.some.inj h
    exact ⟨⟨trivial, trivial⟩, ⟨trivial, trivial⟩, rfl, rfl⟩
/-! halter/file.Seek -/
def file_Seek.f (a0 : Int) (a1 : Int) (a2 : Int) (a3 : Bool) (a4 : Bool) (a5 : ByteArray) (a6 : Int) (a7 : Int) (a8 : Int) (a9 : Int) : Option (Int × (Option Int)) :=
  if a0 = (1 : Int) then
    some ((0 : Int), (some (29 : Int)))
  else
    if a0 = (2 : Int) then
      some ((0 : Int), (some (29 : Int)))
    else
      (file_File_may.f a0 a1 a2 a3 a4 a5 a6).bind fun t3 =>
      if ¬ (t3 = true) then
        some ((0 : Int), (some (22 : Int)))
      else
        if a8 < (0 : Int) then
          some ((0 : Int), (some (22 : Int)))
        else
          if a8 > (2 : Int) then
            some ((0 : Int), (some (22 : Int)))
          else
            if a9 < (0 : Int) then
              some ((0 : Int), (some (22 : Int)))
            else
              if a9 > (1073741824 : Int) then
                some ((0 : Int), (some (22 : Int)))
              else
                if 0 ≤ a8 ∧ a8 < ((3 : Nat) : Int) then
                  if a7 < (IntKind.wrap .i64 (0 - (List.getD [(0 : Int), a2, a9] (Int.toNat a8) (0 : Int)))) then
                    some ((0 : Int), (some (22 : Int)))
                  else
                    if a7 > (IntKind.wrap .i64 ((1073741824 : Int) - (List.getD [(0 : Int), a2, a9] (Int.toNat a8) (0 : Int)))) then
                      some ((0 : Int), (some (22 : Int)))
                    else
                      some ((IntKind.wrap .i64 ((List.getD [(0 : Int), a2, a9] (Int.toNat a8) (0 : Int)) + a7)), none)
                else none
def file_Seek.R (r : Int × (Option Int)) : Tm := .tup [.one (.sc (.int .i64 r.1)), .one (.err r.2)]
theorem file_Seek.fun_ {a0 : Int} {a1 : Int} {a2 : Int} {a3 : Bool} {a4 : Bool} {a5 : ByteArray} {a6 : Int} {a7 : Int} {a8 : Int} {a9 : Int} {r : Int × (Option Int)} (h : file_Seek.f a0 a1 a2 a3 a4 a5 a6 a7 a8 a9 = some r) : Fun cfg 7 [.agg [.c (.sc (.int .i64 a0)), .c (.sc (.int .i64 a1)), .c (.sc (.int .i64 a2)), .c (.sc (.bool a3)), .c (.sc (.bool a4)), .c (.sc (.string a5)), .c (.sc (.int .i64 a6))], .one (.sc (.int .i64 a7)), .one (.sc (.int .i64 a8)), .one (.sc (.int .i64 a9))] [] (file_Seek.R r) [] := by
  unfold file_Seek.f at h
  refine fun_of_run cfg_ok (f := 7) (fn := Tryd.f7) Tryd.func7 rfl (by kernel_rfl) (rs := [.tmp 8, .tmp 9]) rfl (nt := 60) rfl (l := fin) (k := (.br (.one true (.one true (.one true (.one true (.adj [] (.adj [] (.adj [.drop 0] .nil))))))) (.one false (.one false (.one false (.br (.adj [] (.adj [] (.adj [.drop 0] .nil))) (.call true [] (Bool) (fun t3 => file_File_may.R t3) (fun t3 => (.br (.one true (.one true (.one true (.one true (.one true (.one true (.one true (.one true (.one true (.one true (.one true (.one true (.adj [] (.adj [] (.adj [.drop 0] .nil))))))))))))))) (.one false (.one false (.br (.one true (.one true (.one true (.one true (.one true (.one true (.one true (.one true (.one true (.adj [] (.adj [] (.adj [.drop 0] .nil)))))))))))) (.one false (.one false (.br (.one true (.one true (.one true (.one true (.one true (.one true (.adj [] (.adj [] (.adj [.drop 0] .nil))))))))) (.one false (.one false (.br (.one true (.one true (.one true (.adj [] (.adj [] (.adj [.drop 0] .nil)))))) (.one false (.one false (.br (.adj [] (.adj [] (.adj [.drop 0] .nil))) (.br (.one true (.one true (.one true (.one true (.one true (.adj [] (.adj [] (.adj [.drop 0] .nil)))))))) (.one false (.one false (.one false (.one false (.br (.adj [] (.adj [] (.adj [.drop 0] .nil))) (.adj [] (.adj [] (.adj [] (.adj [.drop 0] .nil))))))))))))))))))))))))))))))) (to_goal (q := (True) ∧ (True) ∧ (((a0 == (1 : Int)) = false → ((a0 == (1 : Int)) = false ∧ (True) ∧ ((a0 == (1 : Int)) = false ∧ (True) ∧ ((a0 == (1 : Int)) = false ∧ (((a0 == (2 : Int)) = true → (True ∧ (True ∧ ((True) ∧ ((True) ∧ True) ∧ (.tup [.one (.sc (.int .i64 (0 : Int))), .one (.err (some (29 : Int)))] : Tm) = file_Seek.R r ∧ ([] : List Box) = [])))) ∧ ((a0 == (2 : Int)) = false → (True) ∧ (∃ t3 : Bool, (Fun cfg 22 [.agg [.c (.sc (.int .i64 a0)), .c (.sc (.int .i64 a1)), .c (.sc (.int .i64 a2)), .c (.sc (.bool a3)), .c (.sc (.bool a4)), .c (.sc (.string a5)), .c (.sc (.int .i64 a6))]] [] (file_File_may.R t3) [] ∧ True) ∧ (((!t3) = false → ((!t3) = false ∧ (True) ∧ ((!t3) = false ∧ (((decide (a8 < (0 : Int))) = false → ((decide (a8 < (0 : Int))) = false ∧ (True) ∧ ((decide (a8 < (0 : Int))) = false ∧ (((decide (a8 > (2 : Int))) = false → ((decide (a8 > (2 : Int))) = false ∧ (True) ∧ ((decide (a8 > (2 : Int))) = false ∧ (((decide (a9 < (0 : Int))) = false → ((decide (a9 < (0 : Int))) = false ∧ (True) ∧ ((decide (a9 < (0 : Int))) = false ∧ (((decide (a9 > (1073741824 : Int))) = true → (True ∧ (True ∧ ((True) ∧ ((True) ∧ True) ∧ (.tup [.one (.sc (.int .i64 (0 : Int))), .one (.err (some (22 : Int)))] : Tm) = file_Seek.R r ∧ ([] : List Box) = [])))) ∧ ((decide (a9 > (1073741824 : Int))) = false → (True) ∧ (0 ≤ a8 ∧ a8 < ((3 : Nat) : Int)) ∧ (True) ∧ (((decide (a7 < (IntKind.wrap .i64 (0 - (List.getD [(0 : Int), a2, a9] (Int.toNat a8) (0 : Int)))))) = false → ((decide (a7 < (IntKind.wrap .i64 (0 - (List.getD [(0 : Int), a2, a9] (Int.toNat a8) (0 : Int)))))) = false ∧ ((decide (a7 < (IntKind.wrap .i64 (0 - (List.getD [(0 : Int), a2, a9] (Int.toNat a8) (0 : Int)))))) = false ∧ (True) ∧ ((decide (a7 < (IntKind.wrap .i64 (0 - (List.getD [(0 : Int), a2, a9] (Int.toNat a8) (0 : Int)))))) = false ∧ (True) ∧ ((decide (a7 < (IntKind.wrap .i64 (0 - (List.getD [(0 : Int), a2, a9] (Int.toNat a8) (0 : Int)))))) = false ∧ (((decide (a7 > (IntKind.wrap .i64 ((1073741824 : Int) - (List.getD [(0 : Int), a2, a9] (Int.toNat a8) (0 : Int)))))) = true → (True ∧ (True ∧ ((True) ∧ ((True) ∧ True) ∧ (.tup [.one (.sc (.int .i64 (0 : Int))), .one (.err (some (22 : Int)))] : Tm) = file_Seek.R r ∧ ([] : List Box) = [])))) ∧ ((decide (a7 > (IntKind.wrap .i64 ((1073741824 : Int) - (List.getD [(0 : Int), a2, a9] (Int.toNat a8) (0 : Int)))))) = false → (True ∧ (True ∧ (True) ∧ (True ∧ ((True) ∧ ((True) ∧ True) ∧ (.tup [.one (.sc (.int .i64 (IntKind.wrap .i64 ((List.getD [(0 : Int), a2, a9] (Int.toNat a8) (0 : Int)) + a7)))), .one (.err none)] : Tm) = file_Seek.R r ∧ ([] : List Box) = []))))))))))) ∧ ((decide (a7 < (IntKind.wrap .i64 (0 - (List.getD [(0 : Int), a2, a9] (Int.toNat a8) (0 : Int)))))) = true → ((decide (a7 < (IntKind.wrap .i64 (0 - (List.getD [(0 : Int), a2, a9] (Int.toNat a8) (0 : Int)))))) = true ∧ ((decide (a7 < (IntKind.wrap .i64 (0 - (List.getD [(0 : Int), a2, a9] (Int.toNat a8) (0 : Int)))))) = true ∧ ((decide (a7 < (IntKind.wrap .i64 (0 - (List.getD [(0 : Int), a2, a9] (Int.toNat a8) (0 : Int)))))) = true ∧ ((decide (a7 < (IntKind.wrap .i64 (0 - (List.getD [(0 : Int), a2, a9] (Int.toNat a8) (0 : Int)))))) = true ∧ (true = true ∧ (True ∧ (True ∧ ((True) ∧ ((True) ∧ True) ∧ (.tup [.one (.sc (.int .i64 (0 : Int))), .one (.err (some (22 : Int)))] : Tm) = file_Seek.R r ∧ ([] : List Box) = []))))))))))))))) ∧ ((decide (a9 < (0 : Int))) = true → ((decide (a9 < (0 : Int))) = true ∧ ((decide (a9 < (0 : Int))) = true ∧ (true = true ∧ (True ∧ (True ∧ ((True) ∧ ((True) ∧ True) ∧ (.tup [.one (.sc (.int .i64 (0 : Int))), .one (.err (some (22 : Int)))] : Tm) = file_Seek.R r ∧ ([] : List Box) = []))))))))))) ∧ ((decide (a8 > (2 : Int))) = true → ((decide (a8 > (2 : Int))) = true ∧ ((decide (a8 > (2 : Int))) = true ∧ (true = true ∧ (true = true ∧ (true = true ∧ (true = true ∧ (True ∧ (True ∧ ((True) ∧ ((True) ∧ True) ∧ (.tup [.one (.sc (.int .i64 (0 : Int))), .one (.err (some (22 : Int)))] : Tm) = file_Seek.R r ∧ ([] : List Box) = [])))))))))))))) ∧ ((decide (a8 < (0 : Int))) = true → ((decide (a8 < (0 : Int))) = true ∧ ((decide (a8 < (0 : Int))) = true ∧ (true = true ∧ (true = true ∧ (true = true ∧ (true = true ∧ (true = true ∧ (true = true ∧ (true = true ∧ (True ∧ (True ∧ ((True) ∧ ((True) ∧ True) ∧ (.tup [.one (.sc (.int .i64 (0 : Int))), .one (.err (some (22 : Int)))] : Tm) = file_Seek.R r ∧ ([] : List Box) = []))))))))))))))))) ∧ ((!t3) = true → ((!t3) = true ∧ ((!t3) = true ∧ (true = true ∧ (true = true ∧ (true = true ∧ (true = true ∧ (true = true ∧ (true = true ∧ (true = true ∧ (true = true ∧ (true = true ∧ (true = true ∧ (True ∧ (True ∧ ((True) ∧ ((True) ∧ True) ∧ (.tup [.one (.sc (.int .i64 (0 : Int))), .one (.err (some (22 : Int)))] : Tm) = file_Seek.R r ∧ ([] : List Box) = [])))))))))))))))))))))))) ∧ ((a0 == (1 : Int)) = true → ((a0 == (1 : Int)) = true ∧ ((a0 == (1 : Int)) = true ∧ ((a0 == (1 : Int)) = true ∧ (true = true ∧ (True ∧ (True ∧ ((True) ∧ ((True) ∧ True) ∧ (.tup [.one (.sc (.int .i64 (0 : Int))), .one (.err (some (29 : Int)))] : Tm) = file_Seek.R r ∧ ([] : List Box) = [])))))))))) (by kernel_rfl) ?_)
  refine ⟨trivial, ?_⟩
  refine ⟨trivial, ?_⟩
  refine ⟨fun b1 => ?_, fun b1 => ?_⟩
  · rw [if_neg (beq_f b1)] at h
    refine ⟨b1, ?_⟩
    refine ⟨trivial, ?_⟩
    refine ⟨b1, ?_⟩
    refine ⟨trivial, ?_⟩
    refine ⟨b1, ?_⟩
    refine ⟨fun b2 => ?_, fun b2 => ?_⟩
    · rw [if_pos (beq_t b2)] at h
      refine ⟨trivial, ?_⟩
      refine ⟨trivial, ?_⟩
      obtain rfl := Option.some.inj h
      exact ⟨trivial, ⟨trivial, trivial⟩, rfl, rfl⟩
    · rw [if_neg (beq_f b2)] at h
      refine ⟨trivial, ?_⟩
      obtain ⟨t3, ht3, h⟩ := of_bind h
      refine ⟨t3, ⟨file_File_may.fun_ ht3, trivial⟩, ?_⟩
      refine ⟨fun b4 => ?_, fun b4 => ?_⟩
      · rw [if_neg (not_not_intro (not_f b4))] at h
        refine ⟨b4, ?_⟩
        refine ⟨trivial, ?_⟩
        refine ⟨b4, ?_⟩
        refine ⟨fun b5 => ?_, fun b5 => ?_⟩
        · rw [if_neg (of_decide_eq_false b5)] at h
          refine ⟨b5, ?_⟩
          refine ⟨trivial, ?_⟩
          refine ⟨b5, ?_⟩
          refine ⟨fun b6 => ?_, fun b6 => ?_⟩
          · rw [if_neg (of_decide_eq_false b6)] at h
            refine ⟨b6, ?_⟩
            refine ⟨trivial, ?_⟩
            refine ⟨b6, ?_⟩
            refine ⟨fun b7 => ?_, fun b7 => ?_⟩
            · rw [if_neg (of_decide_eq_false b7)] at h
              refine ⟨b7, ?_⟩
              refine ⟨trivial, ?_⟩
              refine ⟨b7, ?_⟩
              refine ⟨fun b8 => ?_, fun b8 => ?_⟩
              · rw [if_pos (of_decide_eq_true b8)] at h
                refine ⟨trivial, ?_⟩
                refine ⟨trivial, ?_⟩
                obtain rfl := Option.some.inj h
                exact ⟨trivial, ⟨trivial, trivial⟩, rfl, rfl⟩
              · rw [if_neg (of_decide_eq_false b8)] at h
                refine ⟨trivial, ?_⟩
                obtain ⟨g11, h⟩ := of_guard h
                refine ⟨g11, ?_⟩
                refine ⟨trivial, ?_⟩
                refine ⟨fun b9 => ?_, fun b9 => ?_⟩
                · rw [if_neg (of_decide_eq_false b9)] at h
                  refine ⟨b9, ?_⟩
                  refine ⟨b9, ?_⟩
                  refine ⟨trivial, ?_⟩
                  refine ⟨b9, ?_⟩
                  refine ⟨trivial, ?_⟩
                  refine ⟨b9, ?_⟩
                  refine ⟨fun b10 => ?_, fun b10 => ?_⟩
                  · rw [if_pos (of_decide_eq_true b10)] at h
                    refine ⟨trivial, ?_⟩
                    refine ⟨trivial, ?_⟩
                    obtain rfl := Option.some.inj h
                    exact ⟨trivial, ⟨trivial, trivial⟩, rfl, rfl⟩
                  · rw [if_neg (of_decide_eq_false b10)] at h
                    refine ⟨trivial, ?_⟩
                    refine ⟨trivial, ?_⟩
                    refine ⟨trivial, ?_⟩
                    refine ⟨trivial, ?_⟩
                    obtain rfl := Option.some.inj h
                    exact ⟨trivial, ⟨trivial, trivial⟩, rfl, rfl⟩
                · rw [if_pos (of_decide_eq_true b9)] at h
                  refine ⟨b9, ?_⟩
                  refine ⟨b9, ?_⟩
                  refine ⟨b9, ?_⟩
                  refine ⟨b9, ?_⟩
                  refine ⟨rfl, ?_⟩
                  refine ⟨trivial, ?_⟩
                  refine ⟨trivial, ?_⟩
                  obtain rfl := Option.some.inj h
                  exact ⟨trivial, ⟨trivial, trivial⟩, rfl, rfl⟩
            · rw [if_pos (of_decide_eq_true b7)] at h
              refine ⟨b7, ?_⟩
              refine ⟨b7, ?_⟩
              refine ⟨rfl, ?_⟩
              refine ⟨trivial, ?_⟩
              refine ⟨trivial, ?_⟩
              obtain rfl := Option.some.inj h
              exact ⟨trivial, ⟨trivial, trivial⟩, rfl, rfl⟩
          · rw [if_pos (of_decide_eq_true b6)] at h
            refine ⟨b6, ?_⟩
            refine ⟨b6, ?_⟩
            refine ⟨rfl, ?_⟩
            refine ⟨rfl, ?_⟩
            refine ⟨rfl, ?_⟩
            refine ⟨rfl, ?_⟩
            refine ⟨trivial, ?_⟩
            refine ⟨trivial, ?_⟩
            obtain rfl := Option.some.inj h
            exact ⟨trivial, ⟨trivial, trivial⟩, rfl, rfl⟩
        · rw [if_pos (of_decide_eq_true b5)] at h
          refine ⟨b5, ?_⟩
          refine ⟨b5, ?_⟩
          refine ⟨rfl, ?_⟩
          refine ⟨rfl, ?_⟩
          refine ⟨rfl, ?_⟩
          refine ⟨rfl, ?_⟩
          refine ⟨rfl, ?_⟩
          refine ⟨rfl, ?_⟩
          refine ⟨rfl, ?_⟩
          refine ⟨trivial, ?_⟩
          refine ⟨trivial, ?_⟩
          obtain rfl := Option.some.inj h
          exact ⟨trivial, ⟨trivial, trivial⟩, rfl, rfl⟩
      · rw [if_pos (ff (not_t b4))] at h
        refine ⟨b4, ?_⟩
        refine ⟨b4, ?_⟩
        refine ⟨rfl, ?_⟩
        refine ⟨rfl, ?_⟩
        refine ⟨rfl, ?_⟩
        refine ⟨rfl, ?_⟩
        refine ⟨rfl, ?_⟩
        refine ⟨rfl, ?_⟩
        refine ⟨rfl, ?_⟩
        refine ⟨rfl, ?_⟩
        refine ⟨rfl, ?_⟩
        refine ⟨rfl, ?_⟩
        refine ⟨trivial, ?_⟩
        refine ⟨trivial, ?_⟩
        obtain rfl := Option.some.inj h
        exact ⟨trivial, ⟨trivial, trivial⟩, rfl, rfl⟩
  · rw [if_pos (beq_t b1)] at h
    refine ⟨b1, ?_⟩
    refine ⟨b1, ?_⟩
    refine ⟨b1, ?_⟩
    refine ⟨rfl, ?_⟩
    refine ⟨trivial, ?_⟩
    refine ⟨trivial, ?_⟩
    obtain rfl := Option.some.inj h
    exact ⟨trivial, ⟨trivial, trivial⟩, rfl, rfl⟩
/-! (*halter/file.Table).List -/
def file_Table_List_v1.l0 (a0 : Nat) (a1 : Nat) (a2 : (List (Int × (Int × (Int × (Bool × (Bool × (ByteArray × Int)))))))) : Nat → (List Int) → Int → Option (List Int)
  | 0, _, _ => none
  | n + 1, x12, x13 =>
    if x13 < ((a0 : Nat) : Int) then
      if 0 ≤ x13 ∧ x13 < ((a0 : Nat) : Int) then
        if (0 + (Int.toNat x13)) < a1 then
          if (List.getD a2 (0 + (Int.toNat x13)) ((0 : Int), ((0 : Int), ((0 : Int), (false, (false, (ByteArray.empty, (0 : Int)))))))).2.2.2.2.2.2 > (0 : Int) then
            if (0 = 0 ∧ 1 = 1) ∧ 0 = 0 ∧ (List.length x12) = (List.length x12) ∧ (((List.length x12) + 1) * 8 ≤ 140737488355328 ∧ (List.length x12) + 1 ≤ 9223372036854775807) then
              file_Table_List_v1.l0 a0 a1 a2 n (x12 ++ [x13]) (IntKind.wrap .i64 (x13 + (1 : Int)))
            else none
          else
            file_Table_List_v1.l0 a0 a1 a2 n x12 (IntKind.wrap .i64 (x13 + (1 : Int)))
        else none
      else none
    else
      some x12
def file_Table_List_v1.l0_S (a0 : Nat) (a1 : Nat) (a2 : (List (Int × (Int × (Int × (Bool × (Bool × (ByteArray × Int)))))))) (x12 : List Int) (x13 : Int) : St := ⟨[.any, .any, .any, .v (.one (.os 2 0 0 1 (List.length x12) none)), .any, .any, .any, .any, .any, .any, .any, .v (.one (.os 1 0 0 7 a0 none)), .v (.one (.sc (.int .i64 ((a0 : Nat) : Int)))), .v (.one (.sc (.int .i64 x13))), .any, .any, .any, .any, .any, .any, .any, .any, .any, .any, .any, .any, .any], [.ex false [.c (.os 1 0 0 7 a0 none)] 72, .ex false [.row a1 (.pair (.int .i64) (.pair (.int .i64) (.pair (.int .i64) (.pair .bool (.pair .bool (.pair .str (.int .i64))))))) a2] 30, .gro false (.int .i64) x12 3], 2⟩
def file_Table_List_v1.l0_Q (a0 : Nat) (a1 : Nat) (a2 : (List (Int × (Int × (Int × (Bool × (Bool × (ByteArray × Int)))))))) (t : (List Int)) : Exit → St → Prop := fun e s => e = (.exit 0) ∧ s = ⟨[.any, .any, .any, .v (.one (.os 2 0 0 1 (List.length t) none)), .any, .any, .any, .any, .any, .any, .any, .any, .any, .any, .any, .any, .any, .any, .any, .any, .any, .any, .any, .any, .any, .any, .any], [.ex false [.c (.os 1 0 0 7 a0 none)] 72, .ex false [.row a1 (.pair (.int .i64) (.pair (.int .i64) (.pair (.int .i64) (.pair .bool (.pair .bool (.pair .str (.int .i64))))))) a2] 30, .gro false (.int .i64) t 3], 2⟩
theorem file_Table_List_v1.l0_ok (a0 : Nat) (a1 : Nat) (a2 : (List (Int × (Int × (Int × (Bool × (Bool × (ByteArray × Int)))))))) : ∀ (n : Nat) (x12 : List Int) (x13 : Int) (r : (List Int)), file_Table_List_v1.l0 a0 a1 a2 n x12 x13 = some r → TripN cfg (cpath (Tryd.f16.body.getD .skip) [1, 1, 1, 0, 1, 0, 0]) n (file_Table_List_v1.l0_S a0 a1 a2 x12 x13) (file_Table_List_v1.l0_Q a0 a1 a2 r) := by
  intro n
  induction n with
  | zero => intro x12 x13 r h; cases h
  | succ n ih =>
    intro x12 x13 r h
    rw [file_Table_List_v1.l0] at h
    refine TripN.of_run cfg_ok (k := (.br (.br (.d (.b true) (.adj [] (.adj [.keep [3, 11, 12, 13], .drop 3] .nil))) (.adj [] (.adj [] (.adj [.keep [3, 11, 12, 13], .drop 3] .nil)))) (.adj [.keep [3], .drop 3] .nil))) (to_goal (q := (True) ∧ (((decide (x13 < ((a0 : Nat) : Int))) = true → (0 ≤ x13 ∧ x13 < ((a0 : Nat) : Int)) ∧ ((0 + (Int.toNat x13)) < a1) ∧ (True) ∧ (True) ∧ (True) ∧ (((decide ((List.getD a2 (0 + (Int.toNat x13)) ((0 : Int), ((0 : Int), ((0 : Int), (false, (false, (ByteArray.empty, (0 : Int)))))))).2.2.2.2.2.2 > (0 : Int))) = true → ((0 = 0 ∧ 1 = 1) ∧ 0 = 0 ∧ (List.length x12) = (List.length x12) ∧ (((List.length x12) + 1) * 8 ≤ 140737488355328 ∧ (List.length x12) + 1 ≤ 9223372036854775807)) ∧ (True ∧ (True) ∧ (((True) ∧ (True) ∧ True) ∧ TripN cfg (cpath (Tryd.f16.body.getD .skip) [1, 1, 1, 0, 1, 0, 0]) n (file_Table_List_v1.l0_S a0 a1 a2 (x12 ++ [x13]) (IntKind.wrap .i64 (x13 + (1 : Int)))) (file_Table_List_v1.l0_Q a0 a1 a2 r)))) ∧ ((decide ((List.getD a2 (0 + (Int.toNat x13)) ((0 : Int), ((0 : Int), ((0 : Int), (false, (false, (ByteArray.empty, (0 : Int)))))))).2.2.2.2.2.2 > (0 : Int))) = false → (True ∧ (True ∧ (True) ∧ (((True) ∧ (True) ∧ True) ∧ TripN cfg (cpath (Tryd.f16.body.getD .skip) [1, 1, 1, 0, 1, 0, 0]) n (file_Table_List_v1.l0_S a0 a1 a2 x12 (IntKind.wrap .i64 (x13 + (1 : Int)))) (file_Table_List_v1.l0_Q a0 a1 a2 r))))))) ∧ ((decide (x13 < ((a0 : Nat) : Int))) = false → (((True) ∧ (True) ∧ True) ∧ file_Table_List_v1.l0_Q a0 a1 a2 r (.exit 0) ⟨[.any, .any, .any, .v (.one (.os 2 0 0 1 (List.length x12) none)), .any, .any, .any, .any, .any, .any, .any, .any, .any, .any, .any, .any, .any, .any, .any, .any, .any, .any, .any, .any, .any, .any, .any], [.ex false [.c (.os 1 0 0 7 a0 none)] 72, .ex false [.row a1 (.pair (.int .i64) (.pair (.int .i64) (.pair (.int .i64) (.pair .bool (.pair .bool (.pair .str (.int .i64))))))) a2] 30, .gro false (.int .i64) x12 3], 2⟩)))) (by kernel_rfl) ?_)
    refine ⟨trivial, ?_⟩
    refine ⟨fun b21 => ?_, fun b21 => ?_⟩
    · rw [if_pos (of_decide_eq_true b21)] at h
      obtain ⟨g25, h⟩ := of_guard h
      refine ⟨g25, ?_⟩
      obtain ⟨g24, h⟩ := of_guard h
      refine ⟨g24, ?_⟩
      refine ⟨trivial, ?_⟩
      refine ⟨trivial, ?_⟩
      refine ⟨trivial, ?_⟩
      refine ⟨fun b22 => ?_, fun b22 => ?_⟩
      · rw [if_pos (of_decide_eq_true b22)] at h
        obtain ⟨g23, h⟩ := of_guard h
        refine ⟨g23, ?_⟩
        refine ⟨trivial, ?_⟩
        refine ⟨trivial, ?_⟩
        exact ⟨⟨trivial, trivial, trivial⟩, ih (x12 ++ [x13]) (IntKind.wrap .i64 (x13 + (1 : Int))) r h⟩
      · rw [if_neg (of_decide_eq_false b22)] at h
        refine ⟨trivial, ?_⟩
        refine ⟨trivial, ?_⟩
        refine ⟨trivial, ?_⟩
        exact ⟨⟨trivial, trivial, trivial⟩, ih x12 (IntKind.wrap .i64 (x13 + (1 : Int))) r h⟩
    · rw [if_neg (of_decide_eq_false b21)] at h
      obtain rfl := Option.some.inj h
      exact ⟨⟨trivial, trivial, trivial⟩, rfl, rfl⟩
def file_Table_List_v1.f (a0 : Nat) (a1 : Nat) (a2 : (List (Int × (Int × (Int × (Bool × (Bool × (ByteArray × Int)))))))) : Option (List Int) :=
  (file_Table_List_v1.l0 a0 a1 a2 FUEL ([] : List Int) (0 : Int)).bind fun t20 =>
  some t20
def file_Table_List_v1.R (r : (List Int)) : Tm := .v (.one (.fs (.int .i64) r false))
def file_Table_List_v1.B (a0 : Nat) (a1 : Nat) (a2 : (List (Int × (Int × (Int × (Bool × (Bool × (ByteArray × Int)))))))) (r : (List Int)) : List Box := [.ex false [.c (.os 1 0 0 7 a0 none)] 72, .ex false [.row a1 (.pair (.int .i64) (.pair (.int .i64) (.pair (.int .i64) (.pair .bool (.pair .bool (.pair .str (.int .i64))))))) a2] 30]
theorem file_Table_List_v1.fun_ {a0 : Nat} {a1 : Nat} {a2 : (List (Int × (Int × (Int × (Bool × (Bool × (ByteArray × Int)))))))} {r : (List Int)} (h : file_Table_List_v1.f a0 a1 a2 = some r) : Fun cfg 16 [.one (.ptr 0 ⟨0, 0, 0, 0⟩)] [.ex false [.c (.os 1 0 0 7 a0 none)] 72, .ex false [.row a1 (.pair (.int .i64) (.pair (.int .i64) (.pair (.int .i64) (.pair .bool (.pair .bool (.pair .str (.int .i64))))))) a2] 30] (file_Table_List_v1.R r) (file_Table_List_v1.B a0 a1 a2 r) := by
  unfold file_Table_List_v1.f at h
  refine fun_of_run cfg_ok (f := 16) (fn := Tryd.f16) Tryd.func16 rfl (by kernel_rfl) (rs := [.tmp 2]) rfl (nt := 27) rfl (l := fin) (k := (.one false (.adj [] (.adj [] (.adj [] (.adj [] (.adj [.keep [3, 11, 12, 13], .nilGro 3 (.int .i64) 3] (.sub ((List Int)) (fun _ => (.exit 0)) (fun t20 => ⟨[.any, .any, .any, .v (.one (.os 2 0 0 1 (List.length t20) none)), .any, .any, .any, .any, .any, .any, .any, .any, .any, .any, .any, .any, .any, .any, .any, .any, .any, .any, .any, .any, .any, .any, .any], [.ex false [.c (.os 1 0 0 7 a0 none)] 72, .ex false [.row a1 (.pair (.int .i64) (.pair (.int .i64) (.pair (.int .i64) (.pair .bool (.pair .bool (.pair .str (.int .i64))))))) a2] 30, .gro false (.int .i64) t20 3], 2⟩) (fun t20 => (.adj [] (.adj [] (.adj [.co 0 true [], .drop 2] .nil)))))))))))) (to_goal (q := (True) ∧ (false = false ∧ (True ∧ (True ∧ (True ∧ (True) ∧ (True) ∧ (True ∧ (((True) ∧ (True) ∧ True) ∧ (∃ t20 : (List Int), Trip cfg (.loop (cpath (Tryd.f16.body.getD .skip) [1, 1, 1, 0, 1, 0, 0])) ⟨[.any, .any, .any, .v (.one (.os 2 0 0 1 0 none)), .any, .any, .any, .any, .any, .any, .any, .v (.one (.os 1 0 0 7 a0 none)), .v (.one (.sc (.int .i64 ((a0 : Nat) : Int)))), .v (.one (.sc (.int .i64 (0 : Int)))), .any, .any, .any, .any, .any, .any, .any, .any, .any, .any, .any, .any, .any], [.ex false [.c (.os 1 0 0 7 a0 none)] 72, .ex false [.row a1 (.pair (.int .i64) (.pair (.int .i64) (.pair (.int .i64) (.pair .bool (.pair .bool (.pair .str (.int .i64))))))) a2] 30, .gro false (.int .i64) ([] : List Int) 3], 2⟩ (fun e s => e = (.exit 0) ∧ s = ⟨[.any, .any, .any, .v (.one (.os 2 0 0 1 (List.length t20) none)), .any, .any, .any, .any, .any, .any, .any, .any, .any, .any, .any, .any, .any, .any, .any, .any, .any, .any, .any, .any, .any, .any, .any], [.ex false [.c (.os 1 0 0 7 a0 none)] 72, .ex false [.row a1 (.pair (.int .i64) (.pair (.int .i64) (.pair (.int .i64) (.pair .bool (.pair .bool (.pair .str (.int .i64))))))) a2] 30, .gro false (.int .i64) t20 3], 2⟩) ∧ (True ∧ (True ∧ ((True) ∧ ((((0 = 0 ∧ (List.length t20) = (List.length t20))) ∧ True) ∧ (True) ∧ True) ∧ (.v (.one (.fs (.int .i64) t20 false)) : Tm) = file_Table_List_v1.R r ∧ ([.ex false [.c (.os 1 0 0 7 a0 none)] 72, .ex false [.row a1 (.pair (.int .i64) (.pair (.int .i64) (.pair (.int .i64) (.pair .bool (.pair .bool (.pair .str (.int .i64))))))) a2] 30] : List Box) = file_Table_List_v1.B a0 a1 a2 r))))))))))) (by kernel_rfl) ?_)
  refine ⟨trivial, ?_⟩
  refine ⟨rfl, ?_⟩
  refine ⟨trivial, ?_⟩
  refine ⟨trivial, ?_⟩
  refine ⟨trivial, ?_⟩
  refine ⟨trivial, ?_⟩
  refine ⟨trivial, ?_⟩
  refine ⟨trivial, ?_⟩
  obtain ⟨t20, ht20, h⟩ := of_bind h
  refine ⟨⟨trivial, trivial, trivial⟩, t20, Trip.loop FUEL (file_Table_List_v1.l0_ok a0 a1 a2 FUEL ([] : List Int) (0 : Int) t20 ht20), ?_⟩
  refine ⟨trivial, ?_⟩
  refine ⟨trivial, ?_⟩
  obtain rfl := Option.some.inj h
  exact ⟨trivial, ⟨⟨⟨rfl, rfl⟩, trivial⟩, trivial, trivial⟩, rfl, rfl⟩
/-! halter/halterlaw19.sure -/
def halterlaw19_sure.f : Option Bool :=
  (file_New.f (2 : Int)).bind fun t1 =>
  match t1 with
  | .inl t2 =>
    some false
  | .inr t3 =>
    (file_Table_Open_v1.f (0 : Int) (3 : Int) (0 : Int) false false (⟨#[97]⟩ : ByteArray) (0 : Int) t3.1 t3.2.1 t3.2.2).bind fun t4 =>
    (file_Table_Ref_v1.f t4.1 t3.1 t3.2.1 t4.2.2).bind fun t5 =>
    (file_Table_Unref_v1.f t4.1 t3.1 t3.2.1 t5.2).bind fun t6 =>
    (file_Seek.f (0 : Int) (0 : Int) (0 : Int) false false ByteArray.empty (0 : Int) (-1 : Int) (2 : Int) (5 : Int)).bind fun t7 =>
    (file_Seek.f (1 : Int) (0 : Int) (0 : Int) false false ByteArray.empty (0 : Int) (0 : Int) (0 : Int) (0 : Int)).bind fun t8 =>
    if t4.2.1 = none then
      if t5.1 = none then
        if t6.2.2.2.2.2.2.2.2.1 = none then
          if t7.2 = none then
            if t4.1 = (0 : Int) then
              if ¬ (t6.2.2.2.2.2.2.2.1 = true) then
                if t7.1 = (4 : Int) then
                  (num.f t8.2).bind fun t16 =>
                  if t16 = (29 : Int) then
                    (file_Table_List_v1.f t3.1 t3.2.1 t6.2.2.2.2.2.2.2.2.2).bind fun t18 =>
                    some ((((List.length t18) : Nat) : Int) == (1 : Int))
                  else
                    some false
                else
                  some false
              else
                some false
            else
              some false
          else
            some false
        else
          some false
      else
        some false
    else
      some false
def halterlaw19_sure.R (r : Bool) : Tm := .v (.one (.sc (.bool r)))
theorem halterlaw19_sure.fun_ {r : Bool} (h : halterlaw19_sure.f = some r) : Fun cfg 6 [] [] (halterlaw19_sure.R r) [] := by
  unfold halterlaw19_sure.f at h
  refine fun_of_run cfg_ok (f := 6) (fn := Tryd.f6) Tryd.func6 rfl (by kernel_rfl) (rs := [.tmp 0]) rfl (nt := 86) rfl (l := fin) (k := (.alt (.callR true [] [] (Int) (fun t2 => (file_New.R (.inl t2))) (fun t2 => (file_New.B (2 : Int) (.inl t2))) (fun t2 => (.one true (.one true (.one true (.one true (.adj [] (.adj [] (.adj [] .nil))))))))) (.callR true [] [] (Nat × Nat × (List (Int × (Int × (Int × (Bool × (Bool × (ByteArray × Int)))))))) (fun t3 => (file_New.R (.inr t3))) (fun t3 => (file_New.B (2 : Int) (.inr t3))) (fun t3 => (.one false (.one false (.one false (.one false (.callR true [] [0, 1] (Int × (Option Int) × (List (Int × (Int × (Int × (Bool × (Bool × (ByteArray × Int)))))))) (fun t4 => (file_Table_Open_v1.R t4)) (fun t4 => (file_Table_Open_v1.B (0 : Int) (3 : Int) (0 : Int) false false (⟨#[97]⟩ : ByteArray) (0 : Int) t3.1 t3.2.1 (z2 t3) t4)) (fun t4 => (.callR true [] [0, 1] ((Option Int) × (List (Int × (Int × (Int × (Bool × (Bool × (ByteArray × Int)))))))) (fun t5 => (file_Table_Ref_v1.R t5)) (fun t5 => (file_Table_Ref_v1.B t4.1 t3.1 t3.2.1 (z2 t4) t5)) (fun t5 => (.callR true [] [0, 1] (Int × Int × Int × Bool × Bool × ByteArray × Int × Bool × (Option Int) × (List (Int × (Int × (Int × (Bool × (Bool × (ByteArray × Int)))))))) (fun t6 => (file_Table_Unref_v1.R t6)) (fun t6 => (file_Table_Unref_v1.B t4.1 t3.1 t3.2.1 t5.2 t6)) (fun t6 => (.call true [] (Int × (Option Int)) (fun t7 => file_Seek.R t7) (fun t7 => (.call true [] (Int × (Option Int)) (fun t8 => file_Seek.R t8) (fun t8 => (.br (.one true (.one true (.br (.one true (.one true (.br (.one true (.one true (.br (.one true (.one true (.br (.one true (.one true (.br (.one true (.one true (.br (.one true (.call true [] (Int) (fun t16 => num.R t16) (fun t16 => (.one true (.one true (.br (.one true (.callR true [] [0, 1] ((List Int)) (fun t18 => (file_Table_List_v1.R t18)) (fun t18 => (file_Table_List_v1.B t3.1 t3.2.1 (z9 t6) t18)) (fun t18 => (.one true (.one true (.one true (.adj [] (.adj [.drop 0] .nil)))))))) (.one false (.one false (.one false (.one false (.adj [] (.adj [.drop 0] .nil)))))))))))) (.one false (.one false (.one false (.one false (.one false (.one false (.one false (.one false (.adj [] (.adj [.drop 0] .nil))))))))))))) (.one false (.one false (.one false (.one false (.one false (.one false (.one false (.one false (.one false (.one false (.one false (.adj [] (.adj [.drop 0] .nil)))))))))))))))) (.one false (.one false (.one false (.one false (.one false (.one false (.one false (.one false (.one false (.one false (.one false (.one false (.one false (.one false (.adj [] (.adj [.drop 0] .nil))))))))))))))))))) (.one false (.one false (.one false (.one false (.one false (.one false (.one false (.one false (.one false (.one false (.one false (.one false (.one false (.one false (.one false (.one false (.one false (.adj [] (.adj [.drop 0] .nil)))))))))))))))))))))) (.one false (.one false (.one false (.one false (.one false (.one false (.one false (.one false (.one false (.one false (.one false (.one false (.one false (.one false (.one false (.one false (.one false (.one false (.one false (.one false (.adj [] (.adj [.drop 0] .nil))))))))))))))))))))))))) (.one false (.one false (.one false (.one false (.one false (.one false (.one false (.one false (.one false (.one false (.one false (.one false (.one false (.one false (.one false (.one false (.one false (.one false (.one false (.one false (.one false (.one false (.one false (.adj [] (.adj [.drop 0] .nil)))))))))))))))))))))))))))) (.one false (.one false (.one false (.one false (.one false (.one false (.one false (.one false (.one false (.one false (.one false (.one false (.one false (.one false (.one false (.one false (.one false (.one false (.one false (.one false (.one false (.one false (.one false (.one false (.one false (.one false (.adj [] (.adj [.drop 0] .nil))))))))))))))))))))))))))))))))))))))))))))))) (to_goal (q := ((∃ t2 : Int, (Fun cfg 10 [.one (.sc (.int .i64 (2 : Int)))] [] (file_New.R (.inl t2)) (file_New.B (2 : Int) (.inl t2)) ∧ True) ∧ (True) ∧ (true = true ∧ (true = true ∧ (true = true ∧ (true = true ∧ (True ∧ (True ∧ ((True) ∧ (True) ∧ (.v (.one (.sc (.bool false))) : Tm) = halterlaw19_sure.R r ∧ ([] : List Box) = [])))))))) ∨ (∃ t3 : Nat × Nat × (List (Int × (Int × (Int × (Bool × (Bool × (ByteArray × Int))))))), (Fun cfg 10 [.one (.sc (.int .i64 (2 : Int)))] [] (file_New.R (.inr t3)) (file_New.B (2 : Int) (.inr t3)) ∧ True) ∧ (True) ∧ (false = false ∧ (false = false ∧ (True) ∧ (false = false ∧ (false = false ∧ (∃ t4 : Int × (Option Int) × (List (Int × (Int × (Int × (Bool × (Bool × (ByteArray × Int))))))), (Fun cfg 11 [.one (.ptr 0 ⟨0, 0, 0, 0⟩), .agg [.c (.sc (.int .i64 (0 : Int))), .c (.sc (.int .i64 (3 : Int))), .c (.sc (.int .i64 (0 : Int))), .c (.sc (.bool false)), .c (.sc (.bool false)), .c (.sc (.string (⟨#[97]⟩ : ByteArray))), .c (.sc (.int .i64 (0 : Int)))]] [.ex false [.c (.os 1 0 0 7 t3.1 none)] 72, .ex false [.row t3.2.1 (.pair (.int .i64) (.pair (.int .i64) (.pair (.int .i64) (.pair .bool (.pair .bool (.pair .str (.int .i64))))))) (z2 t3)] 30] (file_Table_Open_v1.R t4) (file_Table_Open_v1.B (0 : Int) (3 : Int) (0 : Int) false false (⟨#[97]⟩ : ByteArray) (0 : Int) t3.1 t3.2.1 (z2 t3) t4) ∧ True) ∧ (∃ t5 : (Option Int) × (List (Int × (Int × (Int × (Bool × (Bool × (ByteArray × Int))))))), (Fun cfg 13 [.one (.ptr 0 ⟨0, 0, 0, 0⟩), .one (.sc (.int .i64 t4.1))] [.ex false [.c (.os 1 0 0 7 t3.1 none)] 72, .ex false [.row t3.2.1 (.pair (.int .i64) (.pair (.int .i64) (.pair (.int .i64) (.pair .bool (.pair .bool (.pair .str (.int .i64))))))) (z2 t4)] 30] (file_Table_Ref_v1.R t5) (file_Table_Ref_v1.B t4.1 t3.1 t3.2.1 (z2 t4) t5) ∧ True) ∧ (∃ t6 : Int × Int × Int × Bool × Bool × ByteArray × Int × Bool × (Option Int) × (List (Int × (Int × (Int × (Bool × (Bool × (ByteArray × Int))))))), (Fun cfg 14 [.one (.ptr 0 ⟨0, 0, 0, 0⟩), .one (.sc (.int .i64 t4.1))] [.ex false [.c (.os 1 0 0 7 t3.1 none)] 72, .ex false [.row t3.2.1 (.pair (.int .i64) (.pair (.int .i64) (.pair (.int .i64) (.pair .bool (.pair .bool (.pair .str (.int .i64))))))) t5.2] 30] (file_Table_Unref_v1.R t6) (file_Table_Unref_v1.B t4.1 t3.1 t3.2.1 t5.2 t6) ∧ True) ∧ (True) ∧ (∃ t7 : Int × (Option Int), (Fun cfg 7 [.agg [.c (.sc (.int .i64 (0 : Int))), .c (.sc (.int .i64 (0 : Int))), .c (.sc (.int .i64 (0 : Int))), .c (.sc (.bool false)), .c (.sc (.bool false)), .c (.sc (.string ByteArray.empty)), .c (.sc (.int .i64 (0 : Int)))], .one (.sc (.int .i64 (-1 : Int))), .one (.sc (.int .i64 (2 : Int))), .one (.sc (.int .i64 (5 : Int)))] [] (file_Seek.R t7) [] ∧ True) ∧ (∃ t8 : Int × (Option Int), (Fun cfg 7 [.agg [.c (.sc (.int .i64 (1 : Int))), .c (.sc (.int .i64 (0 : Int))), .c (.sc (.int .i64 (0 : Int))), .c (.sc (.bool false)), .c (.sc (.bool false)), .c (.sc (.string ByteArray.empty)), .c (.sc (.int .i64 (0 : Int)))], .one (.sc (.int .i64 (0 : Int))), .one (.sc (.int .i64 (0 : Int))), .one (.sc (.int .i64 (0 : Int)))] [] (file_Seek.R t8) [] ∧ True) ∧ (True) ∧ (((Option.isNone t4.2.1) = true → ((Option.isNone t4.2.1) = true ∧ (True) ∧ ((Option.isNone t4.2.1) = true ∧ (((Option.isNone t5.1) = true → ((Option.isNone t5.1) = true ∧ (True) ∧ ((Option.isNone t5.1) = true ∧ (((Option.isNone (p8 t6)) = true → ((Option.isNone (p8 t6)) = true ∧ (True) ∧ ((Option.isNone (p8 t6)) = true ∧ (((Option.isNone t7.2) = true → ((Option.isNone t7.2) = true ∧ (True) ∧ ((Option.isNone t7.2) = true ∧ (((t4.1 == (0 : Int)) = true → ((t4.1 == (0 : Int)) = true ∧ ((t4.1 == (0 : Int)) = true ∧ (((!(p7 t6)) = true → ((!(p7 t6)) = true ∧ (True) ∧ ((!(p7 t6)) = true ∧ (((t7.1 == (4 : Int)) = true → ((t7.1 == (4 : Int)) = true ∧ (∃ t16 : Int, (Fun cfg 9 [.one (.err t8.2)] [] (num.R t16) [] ∧ True) ∧ ((t7.1 == (4 : Int)) = true ∧ (True) ∧ ((t7.1 == (4 : Int)) = true ∧ (((t16 == (29 : Int)) = true → ((t16 == (29 : Int)) = true ∧ (∃ t18 : (List Int), (Fun cfg 16 [.one (.ptr 0 ⟨0, 0, 0, 0⟩)] [.ex false [.c (.os 1 0 0 7 t3.1 none)] 72, .ex false [.row t3.2.1 (.pair (.int .i64) (.pair (.int .i64) (.pair (.int .i64) (.pair .bool (.pair .bool (.pair .str (.int .i64))))))) (z9 t6)] 30] (file_Table_List_v1.R t18) (file_Table_List_v1.B t3.1 t3.2.1 (z9 t6) t18) ∧ True) ∧ ((t16 == (29 : Int)) = true ∧ (True) ∧ ((t16 == (29 : Int)) = true ∧ (True) ∧ ((t16 == (29 : Int)) = true ∧ (True ∧ ((True) ∧ ((True) ∧ True) ∧ (.v (.one (.sc (.bool ((((List.length t18) : Nat) : Int) == (1 : Int))))) : Tm) = halterlaw19_sure.R r ∧ ([] : List Box) = [])))))))) ∧ ((t16 == (29 : Int)) = false → ((t16 == (29 : Int)) = false ∧ ((t16 == (29 : Int)) = false ∧ ((t16 == (29 : Int)) = false ∧ ((t16 == (29 : Int)) = false ∧ (True ∧ ((True) ∧ ((True) ∧ True) ∧ (.v (.one (.sc (.bool false))) : Tm) = halterlaw19_sure.R r ∧ ([] : List Box) = []))))))))))))) ∧ ((t7.1 == (4 : Int)) = false → ((t7.1 == (4 : Int)) = false ∧ ((t7.1 == (4 : Int)) = false ∧ ((t7.1 == (4 : Int)) = false ∧ (false = false ∧ (false = false ∧ (false = false ∧ (false = false ∧ (false = false ∧ (True ∧ ((True) ∧ ((True) ∧ True) ∧ (.v (.one (.sc (.bool false))) : Tm) = halterlaw19_sure.R r ∧ ([] : List Box) = []))))))))))))))) ∧ ((!(p7 t6)) = false → ((!(p7 t6)) = false ∧ ((!(p7 t6)) = false ∧ (false = false ∧ (false = false ∧ (false = false ∧ (false = false ∧ (false = false ∧ (false = false ∧ (false = false ∧ (false = false ∧ (false = false ∧ (True ∧ ((True) ∧ ((True) ∧ True) ∧ (.v (.one (.sc (.bool false))) : Tm) = halterlaw19_sure.R r ∧ ([] : List Box) = [])))))))))))))))))) ∧ ((t4.1 == (0 : Int)) = false → ((t4.1 == (0 : Int)) = false ∧ ((t4.1 == (0 : Int)) = false ∧ (false = false ∧ (false = false ∧ (false = false ∧ (false = false ∧ (false = false ∧ (false = false ∧ (false = false ∧ (false = false ∧ (false = false ∧ (false = false ∧ (false = false ∧ (false = false ∧ (True ∧ ((True) ∧ ((True) ∧ True) ∧ (.v (.one (.sc (.bool false))) : Tm) = halterlaw19_sure.R r ∧ ([] : List Box) = []))))))))))))))))))))) ∧ ((Option.isNone t7.2) = false → ((Option.isNone t7.2) = false ∧ ((Option.isNone t7.2) = false ∧ (false = false ∧ (false = false ∧ (false = false ∧ (false = false ∧ (false = false ∧ (false = false ∧ (false = false ∧ (false = false ∧ (false = false ∧ (false = false ∧ (false = false ∧ (false = false ∧ (false = false ∧ (false = false ∧ (false = false ∧ (True ∧ ((True) ∧ ((True) ∧ True) ∧ (.v (.one (.sc (.bool false))) : Tm) = halterlaw19_sure.R r ∧ ([] : List Box) = [])))))))))))))))))))))))) ∧ ((Option.isNone (p8 t6)) = false → ((Option.isNone (p8 t6)) = false ∧ ((Option.isNone (p8 t6)) = false ∧ (false = false ∧ (false = false ∧ (false = false ∧ (false = false ∧ (false = false ∧ (false = false ∧ (false = false ∧ (false = false ∧ (false = false ∧ (false = false ∧ (false = false ∧ (false = false ∧ (false = false ∧ (false = false ∧ (false = false ∧ (false = false ∧ (false = false ∧ (false = false ∧ (True ∧ ((True) ∧ ((True) ∧ True) ∧ (.v (.one (.sc (.bool false))) : Tm) = halterlaw19_sure.R r ∧ ([] : List Box) = []))))))))))))))))))))))))))) ∧ ((Option.isNone t5.1) = false → ((Option.isNone t5.1) = false ∧ ((Option.isNone t5.1) = false ∧ (false = false ∧ (false = false ∧ (false = false ∧ (false = false ∧ (false = false ∧ (false = false ∧ (false = false ∧ (false = false ∧ (false = false ∧ (false = false ∧ (false = false ∧ (false = false ∧ (false = false ∧ (false = false ∧ (false = false ∧ (false = false ∧ (false = false ∧ (false = false ∧ (false = false ∧ (false = false ∧ (false = false ∧ (True ∧ ((True) ∧ ((True) ∧ True) ∧ (.v (.one (.sc (.bool false))) : Tm) = halterlaw19_sure.R r ∧ ([] : List Box) = [])))))))))))))))))))))))))))))) ∧ ((Option.isNone t4.2.1) = false → ((Option.isNone t4.2.1) = false ∧ ((Option.isNone t4.2.1) = false ∧ (false = false ∧ (false = false ∧ (false = false ∧ (false = false ∧ (false = false ∧ (false = false ∧ (false = false ∧ (false = false ∧ (false = false ∧ (false = false ∧ (false = false ∧ (false = false ∧ (false = false ∧ (false = false ∧ (false = false ∧ (false = false ∧ (false = false ∧ (false = false ∧ (false = false ∧ (false = false ∧ (false = false ∧ (false = false ∧ (false = false ∧ (false = false ∧ (True ∧ ((True) ∧ ((True) ∧ True) ∧ (.v (.one (.sc (.bool false))) : Tm) = halterlaw19_sure.R r ∧ ([] : List Box) = [])))))))))))))))))))))))))))))))))))))))))) (by kernel_rfl) ?_)
  obtain ⟨t1, ht1, h⟩ := of_bind h
  rcases t1 with t2 | t3
  · dsimp only at h
    left
    refine ⟨t2, ⟨file_New.fun_ ht1, trivial⟩, ?_⟩
    refine ⟨trivial, ?_⟩
    refine ⟨rfl, ?_⟩
    refine ⟨rfl, ?_⟩
    refine ⟨rfl, ?_⟩
    refine ⟨rfl, ?_⟩
    refine ⟨trivial, ?_⟩
    refine ⟨trivial, ?_⟩
    obtain rfl := Option.some.inj h
    exact ⟨trivial, trivial, rfl, rfl⟩
  · dsimp only at h
    right
    refine ⟨t3, ⟨file_New.fun_ ht1, trivial⟩, ?_⟩
    refine ⟨trivial, ?_⟩
    refine ⟨rfl, ?_⟩
    refine ⟨rfl, ?_⟩
    refine ⟨trivial, ?_⟩
    refine ⟨rfl, ?_⟩
    refine ⟨rfl, ?_⟩
    obtain ⟨t4, ht4, h⟩ := of_bind h
    refine ⟨t4, ⟨file_Table_Open_v1.fun_ ht4, trivial⟩, ?_⟩
    obtain ⟨t5, ht5, h⟩ := of_bind h
    refine ⟨t5, ⟨file_Table_Ref_v1.fun_ ht5, trivial⟩, ?_⟩
    obtain ⟨t6, ht6, h⟩ := of_bind h
    refine ⟨t6, ⟨file_Table_Unref_v1.fun_ ht6, trivial⟩, ?_⟩
    refine ⟨trivial, ?_⟩
    obtain ⟨t7, ht7, h⟩ := of_bind h
    refine ⟨t7, ⟨file_Seek.fun_ ht7, trivial⟩, ?_⟩
    obtain ⟨t8, ht8, h⟩ := of_bind h
    refine ⟨t8, ⟨file_Seek.fun_ ht8, trivial⟩, ?_⟩
    refine ⟨trivial, ?_⟩
    refine ⟨fun b9 => ?_, fun b9 => ?_⟩
    · rw [if_pos (none_t b9)] at h
      refine ⟨b9, ?_⟩
      refine ⟨trivial, ?_⟩
      refine ⟨b9, ?_⟩
      refine ⟨fun b10 => ?_, fun b10 => ?_⟩
      · rw [if_pos (none_t b10)] at h
        refine ⟨b10, ?_⟩
        refine ⟨trivial, ?_⟩
        refine ⟨b10, ?_⟩
        refine ⟨fun b11 => ?_, fun b11 => ?_⟩
        · rw [if_pos (none_t b11)] at h
          refine ⟨b11, ?_⟩
          refine ⟨trivial, ?_⟩
          refine ⟨b11, ?_⟩
          refine ⟨fun b12 => ?_, fun b12 => ?_⟩
          · rw [if_pos (none_t b12)] at h
            refine ⟨b12, ?_⟩
            refine ⟨trivial, ?_⟩
            refine ⟨b12, ?_⟩
            refine ⟨fun b13 => ?_, fun b13 => ?_⟩
            · rw [if_pos (beq_t b13)] at h
              refine ⟨b13, ?_⟩
              refine ⟨b13, ?_⟩
              refine ⟨fun b14 => ?_, fun b14 => ?_⟩
              · rw [if_pos (ff (not_t b14))] at h
                refine ⟨b14, ?_⟩
                refine ⟨trivial, ?_⟩
                refine ⟨b14, ?_⟩
                refine ⟨fun b15 => ?_, fun b15 => ?_⟩
                · rw [if_pos (beq_t b15)] at h
                  refine ⟨b15, ?_⟩
                  obtain ⟨t16, ht16, h⟩ := of_bind h
                  refine ⟨t16, ⟨num.fun_ ht16, trivial⟩, ?_⟩
                  refine ⟨b15, ?_⟩
                  refine ⟨trivial, ?_⟩
                  refine ⟨b15, ?_⟩
                  refine ⟨fun b17 => ?_, fun b17 => ?_⟩
                  · rw [if_pos (beq_t b17)] at h
                    refine ⟨b17, ?_⟩
                    obtain ⟨t18, ht18, h⟩ := of_bind h
                    refine ⟨t18, ⟨file_Table_List_v1.fun_ ht18, trivial⟩, ?_⟩
                    refine ⟨b17, ?_⟩
                    refine ⟨trivial, ?_⟩
                    refine ⟨b17, ?_⟩
                    refine ⟨trivial, ?_⟩
                    refine ⟨b17, ?_⟩
                    refine ⟨trivial, ?_⟩
                    obtain rfl := Option.some.inj h
                    exact ⟨trivial, ⟨trivial, trivial⟩, rfl, rfl⟩
                  · rw [if_neg (beq_f b17)] at h
                    refine ⟨b17, ?_⟩
                    refine ⟨b17, ?_⟩
                    refine ⟨b17, ?_⟩
                    refine ⟨b17, ?_⟩
                    refine ⟨trivial, ?_⟩
                    obtain rfl := Option.some.inj h
                    exact ⟨trivial, ⟨trivial, trivial⟩, rfl, rfl⟩
                · rw [if_neg (beq_f b15)] at h
                  refine ⟨b15, ?_⟩
                  refine ⟨b15, ?_⟩
                  refine ⟨b15, ?_⟩
                  refine ⟨rfl, ?_⟩
                  refine ⟨rfl, ?_⟩
                  refine ⟨rfl, ?_⟩
                  refine ⟨rfl, ?_⟩
                  refine ⟨rfl, ?_⟩
                  refine ⟨trivial, ?_⟩
                  obtain rfl := Option.some.inj h
                  exact ⟨trivial, ⟨trivial, trivial⟩, rfl, rfl⟩
              · rw [if_neg (not_not_intro (not_f b14))] at h
                refine ⟨b14, ?_⟩
                refine ⟨b14, ?_⟩
                refine ⟨rfl, ?_⟩
                refine ⟨rfl, ?_⟩
                refine ⟨rfl, ?_⟩
                refine ⟨rfl, ?_⟩
                refine ⟨rfl, ?_⟩
                refine ⟨rfl, ?_⟩
                refine ⟨rfl, ?_⟩
                refine ⟨rfl, ?_⟩
                refine ⟨rfl, ?_⟩
                refine ⟨trivial, ?_⟩
                obtain rfl := Option.some.inj h
                exact ⟨trivial, ⟨trivial, trivial⟩, rfl, rfl⟩
            · rw [if_neg (beq_f b13)] at h
              refine ⟨b13, ?_⟩
              refine ⟨b13, ?_⟩
              refine ⟨rfl, ?_⟩
              refine ⟨rfl, ?_⟩
              refine ⟨rfl, ?_⟩
              refine ⟨rfl, ?_⟩
              refine ⟨rfl, ?_⟩
              refine ⟨rfl, ?_⟩
              refine ⟨rfl, ?_⟩
              refine ⟨rfl, ?_⟩
              refine ⟨rfl, ?_⟩
              refine ⟨rfl, ?_⟩
              refine ⟨rfl, ?_⟩
              refine ⟨rfl, ?_⟩
              refine ⟨trivial, ?_⟩
              obtain rfl := Option.some.inj h
              exact ⟨trivial, ⟨trivial, trivial⟩, rfl, rfl⟩
          · rw [if_neg (none_f b12)] at h
            refine ⟨b12, ?_⟩
            refine ⟨b12, ?_⟩
            refine ⟨rfl, ?_⟩
            refine ⟨rfl, ?_⟩
            refine ⟨rfl, ?_⟩
            refine ⟨rfl, ?_⟩
            refine ⟨rfl, ?_⟩
            refine ⟨rfl, ?_⟩
            refine ⟨rfl, ?_⟩
            refine ⟨rfl, ?_⟩
            refine ⟨rfl, ?_⟩
            refine ⟨rfl, ?_⟩
            refine ⟨rfl, ?_⟩
            refine ⟨rfl, ?_⟩
            refine ⟨rfl, ?_⟩
            refine ⟨rfl, ?_⟩
            refine ⟨rfl, ?_⟩
            refine ⟨trivial, ?_⟩
            obtain rfl := Option.some.inj h
            exact ⟨trivial, ⟨trivial, trivial⟩, rfl, rfl⟩
        · rw [if_neg (none_f b11)] at h
          refine ⟨b11, ?_⟩
          refine ⟨b11, ?_⟩
          refine ⟨rfl, ?_⟩
          refine ⟨rfl, ?_⟩
          refine ⟨rfl, ?_⟩
          refine ⟨rfl, ?_⟩
          refine ⟨rfl, ?_⟩
          refine ⟨rfl, ?_⟩
          refine ⟨rfl, ?_⟩
          refine ⟨rfl, ?_⟩
          refine ⟨rfl, ?_⟩
          refine ⟨rfl, ?_⟩
          refine ⟨rfl, ?_⟩
          refine ⟨rfl, ?_⟩
          refine ⟨rfl, ?_⟩
          refine ⟨rfl, ?_⟩
          refine ⟨rfl, ?_⟩
          refine ⟨rfl, ?_⟩
          refine ⟨rfl, ?_⟩
          refine ⟨rfl, ?_⟩
          refine ⟨trivial, ?_⟩
          obtain rfl := Option.some.inj h
          exact ⟨trivial, ⟨trivial, trivial⟩, rfl, rfl⟩
      · rw [if_neg (none_f b10)] at h
        refine ⟨b10, ?_⟩
        refine ⟨b10, ?_⟩
        refine ⟨rfl, ?_⟩
        refine ⟨rfl, ?_⟩
        refine ⟨rfl, ?_⟩
        refine ⟨rfl, ?_⟩
        refine ⟨rfl, ?_⟩
        refine ⟨rfl, ?_⟩
        refine ⟨rfl, ?_⟩
        refine ⟨rfl, ?_⟩
        refine ⟨rfl, ?_⟩
        refine ⟨rfl, ?_⟩
        refine ⟨rfl, ?_⟩
        refine ⟨rfl, ?_⟩
        refine ⟨rfl, ?_⟩
        refine ⟨rfl, ?_⟩
        refine ⟨rfl, ?_⟩
        refine ⟨rfl, ?_⟩
        refine ⟨rfl, ?_⟩
        refine ⟨rfl, ?_⟩
        refine ⟨rfl, ?_⟩
        refine ⟨rfl, ?_⟩
        refine ⟨rfl, ?_⟩
        refine ⟨trivial, ?_⟩
        obtain rfl := Option.some.inj h
        exact ⟨trivial, ⟨trivial, trivial⟩, rfl, rfl⟩
    · rw [if_neg (none_f b9)] at h
      refine ⟨b9, ?_⟩
      refine ⟨b9, ?_⟩
      refine ⟨rfl, ?_⟩
      refine ⟨rfl, ?_⟩
      refine ⟨rfl, ?_⟩
      refine ⟨rfl, ?_⟩
      refine ⟨rfl, ?_⟩
      refine ⟨rfl, ?_⟩
      refine ⟨rfl, ?_⟩
      refine ⟨rfl, ?_⟩
      refine ⟨rfl, ?_⟩
      refine ⟨rfl, ?_⟩
      refine ⟨rfl, ?_⟩
      refine ⟨rfl, ?_⟩
      refine ⟨rfl, ?_⟩
      refine ⟨rfl, ?_⟩
      refine ⟨rfl, ?_⟩
      refine ⟨rfl, ?_⟩
      refine ⟨rfl, ?_⟩
      refine ⟨rfl, ?_⟩
      refine ⟨rfl, ?_⟩
      refine ⟨rfl, ?_⟩
      refine ⟨rfl, ?_⟩
      refine ⟨rfl, ?_⟩
      refine ⟨rfl, ?_⟩
      refine ⟨rfl, ?_⟩
      refine ⟨trivial, ?_⟩
      obtain rfl := Option.some.inj h
      exact ⟨trivial, ⟨trivial, trivial⟩, rfl, rfl⟩
/-! halter/halterref19.At -/
def halterref19_At.l0 (a0 : Int) (a1 : (List (Int × (Int × (Int × (Int × (Bool × (Bool × (ByteArray × Int))))))))) (a2 : Int) : Nat → Int → Option ((Unit) ⊕ (Int))
  | 0, _ => none
  | n + 1, x1 =>
    if x1 < (((List.length a1) : Nat) : Int) then
      if 0 ≤ x1 ∧ x1 < (((List.length a1) : Nat) : Int) then
        if (List.getD a1 (Int.toNat x1) ((0 : Int), ((0 : Int), ((0 : Int), ((0 : Int), (false, (false, (ByteArray.empty, (0 : Int))))))))).1 = a2 then
          some (.inr x1)
        else
          halterref19_At.l0 a0 a1 a2 n (IntKind.wrap .i64 (x1 + (1 : Int)))
      else none
    else
      some (.inl ())
def halterref19_At.l0_S (a0 : Int) (a1 : (List (Int × (Int × (Int × (Int × (Bool × (Bool × (ByteArray × Int))))))))) (a2 : Int) (x1 : Int) : St := ⟨[.any, .v (.one (.sc (.int .i64 a2))), .v (.one (.ptr 0 ⟨0, 0, 0, 0⟩)), .any, .any, .v (.one (.sc (.int .i64 x1))), .any, .any, .any, .any, .any, .any, .any, .any, .any, .any, .any, .any, .any, .any, .any, .any], [.ex false [.c (.sc (.int .i64 a0)), .c (.fs (.pair (.int .i64) (.pair (.int .i64) (.pair (.int .i64) (.pair (.int .i64) (.pair .bool (.pair .bool (.pair .str (.int .i64)))))))) a1 false)] 53], 0⟩
def halterref19_At.l0_Q (a0 : Int) (a1 : (List (Int × (Int × (Int × (Int × (Bool × (Bool × (ByteArray × Int))))))))) (a2 : Int) : (Unit) ⊕ (Int) → Exit → St → Prop
  | .inl t => fun e s => e = (.exit 0) ∧ s = ⟨[.any, .any, .any, .any, .any, .any, .any, .any, .any, .any, .any, .any, .any, .any, .any, .any, .any, .any, .any, .any, .any, .any], [.ex false [.c (.sc (.int .i64 a0)), .c (.fs (.pair (.int .i64) (.pair (.int .i64) (.pair (.int .i64) (.pair (.int .i64) (.pair .bool (.pair .bool (.pair .str (.int .i64)))))))) a1 false)] 53], 0⟩
  | .inr t => fun e s => e = .ret ∧ s = ⟨[.any, .any, .any, .any, .v (.one (.sc (.int .i64 t))), .any, .any, .any, .any, .any, .any, .any, .any, .any, .any, .any, .any, .any, .any, .any, .any, .any], [.ex false [.c (.sc (.int .i64 a0)), .c (.fs (.pair (.int .i64) (.pair (.int .i64) (.pair (.int .i64) (.pair (.int .i64) (.pair .bool (.pair .bool (.pair .str (.int .i64)))))))) a1 false)] 53], 0⟩
theorem halterref19_At.l0_ok (a0 : Int) (a1 : (List (Int × (Int × (Int × (Int × (Bool × (Bool × (ByteArray × Int))))))))) (a2 : Int) : ∀ (n : Nat) (x1 : Int) (r : (Unit) ⊕ (Int)), halterref19_At.l0 a0 a1 a2 n x1 = some r → TripN cfg (cpath (Tryd.f27.body.getD .skip) [1, 0, 1, 0, 0]) n (halterref19_At.l0_S a0 a1 a2 x1) (halterref19_At.l0_Q a0 a1 a2 r) := by
  intro n
  induction n with
  | zero => intro x1 r h; cases h
  | succ n ih =>
    intro x1 r h
    rw [halterref19_At.l0] at h
    refine TripN.of_run cfg_ok (k := (.br (.br (.adj [] (.adj [.keep [4], .drop 1] .nil)) (.adj [] (.adj [] (.adj [.keep [1, 2, 5], .drop 1] .nil)))) (.adj [.keep [], .drop 1] .nil))) (to_goal (q := (True) ∧ (True) ∧ (True) ∧ (((decide (x1 < (((List.length a1) : Nat) : Int))) = true → (True) ∧ (0 ≤ x1 ∧ x1 < (((List.length a1) : Nat) : Int)) ∧ (True) ∧ (True) ∧ ((((List.getD a1 (Int.toNat x1) ((0 : Int), ((0 : Int), ((0 : Int), ((0 : Int), (false, (false, (ByteArray.empty, (0 : Int))))))))).1 == a2) = true → (True ∧ (((True) ∧ (True) ∧ True) ∧ halterref19_At.l0_Q a0 a1 a2 r .ret ⟨[.any, .any, .any, .any, .v (.one (.sc (.int .i64 x1))), .any, .any, .any, .any, .any, .any, .any, .any, .any, .any, .any, .any, .any, .any, .any, .any, .any], [.ex false [.c (.sc (.int .i64 a0)), .c (.fs (.pair (.int .i64) (.pair (.int .i64) (.pair (.int .i64) (.pair (.int .i64) (.pair .bool (.pair .bool (.pair .str (.int .i64)))))))) a1 false)] 53], 0⟩))) ∧ (((List.getD a1 (Int.toNat x1) ((0 : Int), ((0 : Int), ((0 : Int), ((0 : Int), (false, (false, (ByteArray.empty, (0 : Int))))))))).1 == a2) = false → (True ∧ (True ∧ (True) ∧ (((True) ∧ (True) ∧ True) ∧ TripN cfg (cpath (Tryd.f27.body.getD .skip) [1, 0, 1, 0, 0]) n (halterref19_At.l0_S a0 a1 a2 (IntKind.wrap .i64 (x1 + (1 : Int)))) (halterref19_At.l0_Q a0 a1 a2 r))))))) ∧ ((decide (x1 < (((List.length a1) : Nat) : Int))) = false → (((True) ∧ (True) ∧ True) ∧ halterref19_At.l0_Q a0 a1 a2 r (.exit 0) ⟨[.any, .any, .any, .any, .any, .any, .any, .any, .any, .any, .any, .any, .any, .any, .any, .any, .any, .any, .any, .any, .any, .any], [.ex false [.c (.sc (.int .i64 a0)), .c (.fs (.pair (.int .i64) (.pair (.int .i64) (.pair (.int .i64) (.pair (.int .i64) (.pair .bool (.pair .bool (.pair .str (.int .i64)))))))) a1 false)] 53], 0⟩)))) (by kernel_rfl) ?_)
    refine ⟨trivial, ?_⟩
    refine ⟨trivial, ?_⟩
    refine ⟨trivial, ?_⟩
    refine ⟨fun b7 => ?_, fun b7 => ?_⟩
    · rw [if_pos (of_decide_eq_true b7)] at h
      refine ⟨trivial, ?_⟩
      obtain ⟨g9, h⟩ := of_guard h
      refine ⟨g9, ?_⟩
      refine ⟨trivial, ?_⟩
      refine ⟨trivial, ?_⟩
      refine ⟨fun b8 => ?_, fun b8 => ?_⟩
      · rw [if_pos (beq_t b8)] at h
        refine ⟨trivial, ?_⟩
        obtain rfl := Option.some.inj h
        exact ⟨⟨trivial, trivial, trivial⟩, rfl, rfl⟩
      · rw [if_neg (beq_f b8)] at h
        refine ⟨trivial, ?_⟩
        refine ⟨trivial, ?_⟩
        refine ⟨trivial, ?_⟩
        exact ⟨⟨trivial, trivial, trivial⟩, ih (IntKind.wrap .i64 (x1 + (1 : Int))) r h⟩
    · rw [if_neg (of_decide_eq_false b7)] at h
      obtain rfl := Option.some.inj h
      exact ⟨⟨trivial, trivial, trivial⟩, rfl, rfl⟩
def halterref19_At.f (a0 : Int) (a1 : (List (Int × (Int × (Int × (Int × (Bool × (Bool × (ByteArray × Int))))))))) (a2 : Int) : Option Int :=
  (halterref19_At.l0 a0 a1 a2 FUEL (0 : Int)).bind fun t6 =>
  match t6 with
  | .inl t11 =>
    some (-1 : Int)
  | .inr t12 =>
    some t12
def halterref19_At.R (r : Int) : Tm := .v (.one (.sc (.int .i64 r)))
theorem halterref19_At.fun_ {a0 : Int} {a1 : (List (Int × (Int × (Int × (Int × (Bool × (Bool × (ByteArray × Int))))))))} {a2 : Int} {r : Int} (h : halterref19_At.f a0 a1 a2 = some r) : Fun cfg 27 [.agg [.c (.sc (.int .i64 a0)), .c (.fs (.pair (.int .i64) (.pair (.int .i64) (.pair (.int .i64) (.pair (.int .i64) (.pair .bool (.pair .bool (.pair .str (.int .i64)))))))) a1 false)], .one (.sc (.int .i64 a2))] [] (halterref19_At.R r) [] := by
  unfold halterref19_At.f at h
  refine fun_of_run cfg_ok (f := 27) (fn := Tryd.f27) Tryd.func27 rfl (by kernel_rfl) (rs := [.tmp 4]) rfl (nt := 22) rfl (l := fin) (k := (.adj [] (.adj [] (.adj [] (.adj [.keep [1, 2, 5]] (.alt (.sub (Unit) (fun _ => (.exit 0)) (fun t11 => ⟨[.any, .any, .any, .any, .any, .any, .any, .any, .any, .any, .any, .any, .any, .any, .any, .any, .any, .any, .any, .any, .any, .any], [.ex false [.c (.sc (.int .i64 a0)), .c (.fs (.pair (.int .i64) (.pair (.int .i64) (.pair (.int .i64) (.pair (.int .i64) (.pair .bool (.pair .bool (.pair .str (.int .i64)))))))) a1 false)] 53], 0⟩) (fun t11 => (.adj [] (.adj [] (.adj [.drop 0] .nil))))) (.sub (Int) (fun _ => .ret) (fun t12 => ⟨[.any, .any, .any, .any, .v (.one (.sc (.int .i64 t12))), .any, .any, .any, .any, .any, .any, .any, .any, .any, .any, .any, .any, .any, .any, .any, .any, .any], [.ex false [.c (.sc (.int .i64 a0)), .c (.fs (.pair (.int .i64) (.pair (.int .i64) (.pair (.int .i64) (.pair (.int .i64) (.pair .bool (.pair .bool (.pair .str (.int .i64)))))))) a1 false)] 53], 0⟩) (fun t12 => (.adj [.drop 0] .nil))))))))) (to_goal (q := (True ∧ (True ∧ (True ∧ (((True) ∧ True) ∧ ((∃ t11 : Unit, Trip cfg (.loop (cpath (Tryd.f27.body.getD .skip) [1, 0, 1, 0, 0])) ⟨[.any, .v (.one (.sc (.int .i64 a2))), .v (.one (.ptr 0 ⟨0, 0, 0, 0⟩)), .any, .any, .v (.one (.sc (.int .i64 (0 : Int)))), .any, .any, .any, .any, .any, .any, .any, .any, .any, .any, .any, .any, .any, .any, .any, .any], [.ex false [.c (.sc (.int .i64 a0)), .c (.fs (.pair (.int .i64) (.pair (.int .i64) (.pair (.int .i64) (.pair (.int .i64) (.pair .bool (.pair .bool (.pair .str (.int .i64)))))))) a1 false)] 53], 0⟩ (fun e s => e = (.exit 0) ∧ s = ⟨[.any, .any, .any, .any, .any, .any, .any, .any, .any, .any, .any, .any, .any, .any, .any, .any, .any, .any, .any, .any, .any, .any], [.ex false [.c (.sc (.int .i64 a0)), .c (.fs (.pair (.int .i64) (.pair (.int .i64) (.pair (.int .i64) (.pair (.int .i64) (.pair .bool (.pair .bool (.pair .str (.int .i64)))))))) a1 false)] 53], 0⟩) ∧ (True ∧ (True ∧ ((True) ∧ ((True) ∧ True) ∧ (.v (.one (.sc (.int .i64 (-1 : Int)))) : Tm) = halterref19_At.R r ∧ ([] : List Box) = [])))) ∨ (∃ t12 : Int, Trip cfg (.loop (cpath (Tryd.f27.body.getD .skip) [1, 0, 1, 0, 0])) ⟨[.any, .v (.one (.sc (.int .i64 a2))), .v (.one (.ptr 0 ⟨0, 0, 0, 0⟩)), .any, .any, .v (.one (.sc (.int .i64 (0 : Int)))), .any, .any, .any, .any, .any, .any, .any, .any, .any, .any, .any, .any, .any, .any, .any, .any], [.ex false [.c (.sc (.int .i64 a0)), .c (.fs (.pair (.int .i64) (.pair (.int .i64) (.pair (.int .i64) (.pair (.int .i64) (.pair .bool (.pair .bool (.pair .str (.int .i64)))))))) a1 false)] 53], 0⟩ (fun e s => e = .ret ∧ s = ⟨[.any, .any, .any, .any, .v (.one (.sc (.int .i64 t12))), .any, .any, .any, .any, .any, .any, .any, .any, .any, .any, .any, .any, .any, .any, .any, .any, .any], [.ex false [.c (.sc (.int .i64 a0)), .c (.fs (.pair (.int .i64) (.pair (.int .i64) (.pair (.int .i64) (.pair (.int .i64) (.pair .bool (.pair .bool (.pair .str (.int .i64)))))))) a1 false)] 53], 0⟩) ∧ ((True) ∧ ((True) ∧ True) ∧ (.v (.one (.sc (.int .i64 t12))) : Tm) = halterref19_At.R r ∧ ([] : List Box) = [])))))))) (by kernel_rfl) ?_)
  refine ⟨trivial, ?_⟩
  refine ⟨trivial, ?_⟩
  refine ⟨trivial, ?_⟩
  obtain ⟨t6, ht6, h⟩ := of_bind h
  refine ⟨⟨trivial, trivial⟩, ?_⟩
  rcases t6 with t11 | t12
  · dsimp only at h
    left
    refine ⟨t11, Trip.loop FUEL (halterref19_At.l0_ok a0 a1 a2 FUEL (0 : Int) (.inl t11) ht6), ?_⟩
    refine ⟨trivial, ?_⟩
    refine ⟨trivial, ?_⟩
    obtain rfl := Option.some.inj h
    exact ⟨trivial, ⟨trivial, trivial⟩, rfl, rfl⟩
  · dsimp only at h
    right
    refine ⟨t12, Trip.loop FUEL (halterref19_At.l0_ok a0 a1 a2 FUEL (0 : Int) (.inr t12) ht6), ?_⟩
    obtain rfl := Option.some.inj h
    exact ⟨trivial, ⟨trivial, trivial⟩, rfl, rfl⟩
/-! halter/halterref19.Get -/
def halterref19_Get.f (a0 : Int) (a1 : (List (Int × (Int × (Int × (Int × (Bool × (Bool × (ByteArray × Int))))))))) (a2 : Int) : Option (TY2) :=
  (halterref19_At.f a0 a1 a2).bind fun t1 =>
  if t1 < (0 : Int) then
    some ((0 : Int), (0 : Int), (0 : Int), false, false, ByteArray.empty, (0 : Int), (9 : Int))
  else
    if 0 ≤ t1 ∧ t1 < (((List.length a1) : Nat) : Int) then
      some ((List.getD a1 (Int.toNat t1) ((0 : Int), ((0 : Int), ((0 : Int), ((0 : Int), (false, (false, (ByteArray.empty, (0 : Int))))))))).2.1, (List.getD a1 (Int.toNat t1) ((0 : Int), ((0 : Int), ((0 : Int), ((0 : Int), (false, (false, (ByteArray.empty, (0 : Int))))))))).2.2.1, (List.getD a1 (Int.toNat t1) ((0 : Int), ((0 : Int), ((0 : Int), ((0 : Int), (false, (false, (ByteArray.empty, (0 : Int))))))))).2.2.2.1, (List.getD a1 (Int.toNat t1) ((0 : Int), ((0 : Int), ((0 : Int), ((0 : Int), (false, (false, (ByteArray.empty, (0 : Int))))))))).2.2.2.2.1, (List.getD a1 (Int.toNat t1) ((0 : Int), ((0 : Int), ((0 : Int), ((0 : Int), (false, (false, (ByteArray.empty, (0 : Int))))))))).2.2.2.2.2.1, (List.getD a1 (Int.toNat t1) ((0 : Int), ((0 : Int), ((0 : Int), ((0 : Int), (false, (false, (ByteArray.empty, (0 : Int))))))))).2.2.2.2.2.2.1, (List.getD a1 (Int.toNat t1) ((0 : Int), ((0 : Int), ((0 : Int), ((0 : Int), (false, (false, (ByteArray.empty, (0 : Int))))))))).2.2.2.2.2.2.2, (0 : Int))
    else none
def halterref19_Get.R (r : TY2) : Tm := .tup [.agg [.c (.sc (.int .i64 r.1)), .c (.sc (.int .i64 r.2.1)), .c (.sc (.int .i64 r.2.2.1)), .c (.sc (.bool r.2.2.2.1)), .c (.sc (.bool r.2.2.2.2.1)), .c (.sc (.string r.2.2.2.2.2.1)), .c (.sc (.int .i64 r.2.2.2.2.2.2.1))], .one (.sc (.int .i64 r.2.2.2.2.2.2.2))]
theorem halterref19_Get.fun_ {a0 : Int} {a1 : (List (Int × (Int × (Int × (Int × (Bool × (Bool × (ByteArray × Int))))))))} {a2 : Int} {r : TY2} (h : halterref19_Get.f a0 a1 a2 = some r) : Fun cfg 21 [.agg [.c (.sc (.int .i64 a0)), .c (.fs (.pair (.int .i64) (.pair (.int .i64) (.pair (.int .i64) (.pair (.int .i64) (.pair .bool (.pair .bool (.pair .str (.int .i64)))))))) a1 false)], .one (.sc (.int .i64 a2))] [] (halterref19_Get.R r) [] := by
  unfold halterref19_Get.f at h
  refine fun_of_run cfg_ok (f := 21) (fn := Tryd.f21) Tryd.func21 rfl (by kernel_rfl) (rs := [.cell 4 23, .tmp 5]) rfl (nt := 19) rfl (l := fin) (k := (.call true [] (Int) (fun t1 => halterref19_At.R t1) (fun t1 => (.br (.adj [] (.adj [] (.adj [.drop 0] .nil))) (.adj [] (.adj [] (.adj [] (.adj [.drop 0] .nil)))))))) (to_goal (q := (True) ∧ (∃ t1 : Int, (Fun cfg 27 [.agg [.c (.sc (.int .i64 a0)), .c (.fs (.pair (.int .i64) (.pair (.int .i64) (.pair (.int .i64) (.pair (.int .i64) (.pair .bool (.pair .bool (.pair .str (.int .i64)))))))) a1 false)], .one (.sc (.int .i64 a2))] [] (halterref19_At.R t1) [] ∧ True) ∧ (True) ∧ (((decide (t1 < (0 : Int))) = true → (True ∧ (True) ∧ (True ∧ (((True) ∧ True) ∧ ((True) ∧ True) ∧ (.tup [.agg [.c (.sc (.int .i64 (0 : Int))), .c (.sc (.int .i64 (0 : Int))), .c (.sc (.int .i64 (0 : Int))), .c (.sc (.bool false)), .c (.sc (.bool false)), .c (.sc (.string ByteArray.empty)), .c (.sc (.int .i64 (0 : Int)))], .one (.sc (.int .i64 (9 : Int)))] : Tm) = halterref19_Get.R r ∧ ([] : List Box) = [])))) ∧ ((decide (t1 < (0 : Int))) = false → (True ∧ (True ∧ (True) ∧ (0 ≤ t1 ∧ t1 < (((List.length a1) : Nat) : Int)) ∧ (True) ∧ (True) ∧ (True ∧ (((True) ∧ True) ∧ ((True) ∧ True) ∧ (.tup [.agg [.c (.sc (.int .i64 (List.getD a1 (Int.toNat t1) ((0 : Int), ((0 : Int), ((0 : Int), ((0 : Int), (false, (false, (ByteArray.empty, (0 : Int))))))))).2.1)), .c (.sc (.int .i64 (List.getD a1 (Int.toNat t1) ((0 : Int), ((0 : Int), ((0 : Int), ((0 : Int), (false, (false, (ByteArray.empty, (0 : Int))))))))).2.2.1)), .c (.sc (.int .i64 (List.getD a1 (Int.toNat t1) ((0 : Int), ((0 : Int), ((0 : Int), ((0 : Int), (false, (false, (ByteArray.empty, (0 : Int))))))))).2.2.2.1)), .c (.sc (.bool (List.getD a1 (Int.toNat t1) ((0 : Int), ((0 : Int), ((0 : Int), ((0 : Int), (false, (false, (ByteArray.empty, (0 : Int))))))))).2.2.2.2.1)), .c (.sc (.bool (List.getD a1 (Int.toNat t1) ((0 : Int), ((0 : Int), ((0 : Int), ((0 : Int), (false, (false, (ByteArray.empty, (0 : Int))))))))).2.2.2.2.2.1)), .c (.sc (.string (List.getD a1 (Int.toNat t1) ((0 : Int), ((0 : Int), ((0 : Int), ((0 : Int), (false, (false, (ByteArray.empty, (0 : Int))))))))).2.2.2.2.2.2.1)), .c (.sc (.int .i64 (List.getD a1 (Int.toNat t1) ((0 : Int), ((0 : Int), ((0 : Int), ((0 : Int), (false, (false, (ByteArray.empty, (0 : Int))))))))).2.2.2.2.2.2.2))], .one (.sc (.int .i64 (0 : Int)))] : Tm) = halterref19_Get.R r ∧ ([] : List Box) = [])))))))) (by kernel_rfl) ?_)
  refine ⟨trivial, ?_⟩
  obtain ⟨t1, ht1, h⟩ := of_bind h
  refine ⟨t1, ⟨halterref19_At.fun_ ht1, trivial⟩, ?_⟩
  refine ⟨trivial, ?_⟩
  refine ⟨fun b2 => ?_, fun b2 => ?_⟩
  · rw [if_pos (of_decide_eq_true b2)] at h
    refine ⟨trivial, ?_⟩
    refine ⟨trivial, ?_⟩
    refine ⟨trivial, ?_⟩
    obtain rfl := Option.some.inj h
    exact ⟨⟨trivial, trivial⟩, ⟨trivial, trivial⟩, rfl, rfl⟩
  · rw [if_neg (of_decide_eq_false b2)] at h
    refine ⟨trivial, ?_⟩
    refine ⟨trivial, ?_⟩
    refine ⟨trivial, ?_⟩
    obtain ⟨g3, h⟩ := of_guard h
    refine ⟨g3, ?_⟩
    refine ⟨trivial, ?_⟩
    refine ⟨trivial, ?_⟩
    refine ⟨trivial, ?_⟩
    obtain rfl := Option.some.inj h
    exact ⟨⟨trivial, trivial⟩, ⟨trivial, trivial⟩, rfl, rfl⟩
/-! halter/halterref19.With -/
def halterref19_With.l0 (a0 : Int) (a1 : (List (Int × (Int × (Int × (Int × (Bool × (Bool × (ByteArray × Int))))))))) (a2 : Int) (a3 : Int) (a4 : Int) (a5 : Int) (a6 : Bool) (a7 : Bool) (a8 : ByteArray) (a9 : Int) : Nat → (List (Int × (Int × (Int × (Int × (Bool × (Bool × (ByteArray × Int)))))))) → Int → Option (List (Int × (Int × (Int × (Int × (Bool × (Bool × (ByteArray × Int))))))))
  | 0, _, _ => none
  | n + 1, x17, x18 =>
    if x18 < (((List.length a1) : Nat) : Int) then
      if 0 ≤ x18 ∧ x18 < (((List.length a1) : Nat) : Int) then
        if ¬ (List.getD a1 (Int.toNat x18) ((0 : Int), ((0 : Int), ((0 : Int), ((0 : Int), (false, (false, (ByteArray.empty, (0 : Int))))))))).1 = a2 then
          if 0 ≤ x18 ∧ x18 < (((List.length a1) : Nat) : Int) then
            if 0 + 1 ≤ 1 ∧ 0 = 0 ∧ (List.length x17) = (List.length x17) ∧ (((List.length x17) + (List.length (List.take 1 [((List.getD a1 (Int.toNat x18) ((0 : Int), ((0 : Int), ((0 : Int), ((0 : Int), (false, (false, (ByteArray.empty, (0 : Int))))))))).1, ((List.getD a1 (Int.toNat x18) ((0 : Int), ((0 : Int), ((0 : Int), ((0 : Int), (false, (false, (ByteArray.empty, (0 : Int))))))))).2.1, ((List.getD a1 (Int.toNat x18) ((0 : Int), ((0 : Int), ((0 : Int), ((0 : Int), (false, (false, (ByteArray.empty, (0 : Int))))))))).2.2.1, ((List.getD a1 (Int.toNat x18) ((0 : Int), ((0 : Int), ((0 : Int), ((0 : Int), (false, (false, (ByteArray.empty, (0 : Int))))))))).2.2.2.1, ((List.getD a1 (Int.toNat x18) ((0 : Int), ((0 : Int), ((0 : Int), ((0 : Int), (false, (false, (ByteArray.empty, (0 : Int))))))))).2.2.2.2.1, ((List.getD a1 (Int.toNat x18) ((0 : Int), ((0 : Int), ((0 : Int), ((0 : Int), (false, (false, (ByteArray.empty, (0 : Int))))))))).2.2.2.2.2.1, ((List.getD a1 (Int.toNat x18) ((0 : Int), ((0 : Int), ((0 : Int), ((0 : Int), (false, (false, (ByteArray.empty, (0 : Int))))))))).2.2.2.2.2.2.1, (List.getD a1 (Int.toNat x18) ((0 : Int), ((0 : Int), ((0 : Int), ((0 : Int), (false, (false, (ByteArray.empty, (0 : Int))))))))).2.2.2.2.2.2.2)))))))]))) * 64 ≤ 140737488355328 ∧ (List.length x17) + (List.length (List.take 1 [((List.getD a1 (Int.toNat x18) ((0 : Int), ((0 : Int), ((0 : Int), ((0 : Int), (false, (false, (ByteArray.empty, (0 : Int))))))))).1, ((List.getD a1 (Int.toNat x18) ((0 : Int), ((0 : Int), ((0 : Int), ((0 : Int), (false, (false, (ByteArray.empty, (0 : Int))))))))).2.1, ((List.getD a1 (Int.toNat x18) ((0 : Int), ((0 : Int), ((0 : Int), ((0 : Int), (false, (false, (ByteArray.empty, (0 : Int))))))))).2.2.1, ((List.getD a1 (Int.toNat x18) ((0 : Int), ((0 : Int), ((0 : Int), ((0 : Int), (false, (false, (ByteArray.empty, (0 : Int))))))))).2.2.2.1, ((List.getD a1 (Int.toNat x18) ((0 : Int), ((0 : Int), ((0 : Int), ((0 : Int), (false, (false, (ByteArray.empty, (0 : Int))))))))).2.2.2.2.1, ((List.getD a1 (Int.toNat x18) ((0 : Int), ((0 : Int), ((0 : Int), ((0 : Int), (false, (false, (ByteArray.empty, (0 : Int))))))))).2.2.2.2.2.1, ((List.getD a1 (Int.toNat x18) ((0 : Int), ((0 : Int), ((0 : Int), ((0 : Int), (false, (false, (ByteArray.empty, (0 : Int))))))))).2.2.2.2.2.2.1, (List.getD a1 (Int.toNat x18) ((0 : Int), ((0 : Int), ((0 : Int), ((0 : Int), (false, (false, (ByteArray.empty, (0 : Int))))))))).2.2.2.2.2.2.2)))))))])) ≤ 9223372036854775807) then
              halterref19_With.l0 a0 a1 a2 a3 a4 a5 a6 a7 a8 a9 n (x17 ++ (List.take 1 [((List.getD a1 (Int.toNat x18) ((0 : Int), ((0 : Int), ((0 : Int), ((0 : Int), (false, (false, (ByteArray.empty, (0 : Int))))))))).1, ((List.getD a1 (Int.toNat x18) ((0 : Int), ((0 : Int), ((0 : Int), ((0 : Int), (false, (false, (ByteArray.empty, (0 : Int))))))))).2.1, ((List.getD a1 (Int.toNat x18) ((0 : Int), ((0 : Int), ((0 : Int), ((0 : Int), (false, (false, (ByteArray.empty, (0 : Int))))))))).2.2.1, ((List.getD a1 (Int.toNat x18) ((0 : Int), ((0 : Int), ((0 : Int), ((0 : Int), (false, (false, (ByteArray.empty, (0 : Int))))))))).2.2.2.1, ((List.getD a1 (Int.toNat x18) ((0 : Int), ((0 : Int), ((0 : Int), ((0 : Int), (false, (false, (ByteArray.empty, (0 : Int))))))))).2.2.2.2.1, ((List.getD a1 (Int.toNat x18) ((0 : Int), ((0 : Int), ((0 : Int), ((0 : Int), (false, (false, (ByteArray.empty, (0 : Int))))))))).2.2.2.2.2.1, ((List.getD a1 (Int.toNat x18) ((0 : Int), ((0 : Int), ((0 : Int), ((0 : Int), (false, (false, (ByteArray.empty, (0 : Int))))))))).2.2.2.2.2.2.1, (List.getD a1 (Int.toNat x18) ((0 : Int), ((0 : Int), ((0 : Int), ((0 : Int), (false, (false, (ByteArray.empty, (0 : Int))))))))).2.2.2.2.2.2.2)))))))])) (IntKind.wrap .i64 (x18 + (1 : Int)))
            else none
          else none
        else
          if a9 > (0 : Int) then
            if 0 + 1 ≤ 1 ∧ 0 = 0 ∧ (List.length x17) = (List.length x17) ∧ (((List.length x17) + (List.length (List.take 1 [(a2, (a3, (a4, (a5, (a6, (a7, (a8, a9)))))))]))) * 64 ≤ 140737488355328 ∧ (List.length x17) + (List.length (List.take 1 [(a2, (a3, (a4, (a5, (a6, (a7, (a8, a9)))))))])) ≤ 9223372036854775807) then
              halterref19_With.l0 a0 a1 a2 a3 a4 a5 a6 a7 a8 a9 n (x17 ++ (List.take 1 [(a2, (a3, (a4, (a5, (a6, (a7, (a8, a9)))))))])) (IntKind.wrap .i64 (x18 + (1 : Int)))
            else none
          else
            halterref19_With.l0 a0 a1 a2 a3 a4 a5 a6 a7 a8 a9 n x17 (IntKind.wrap .i64 (x18 + (1 : Int)))
      else none
    else
      some x17
def halterref19_With.l0_S (a0 : Int) (a1 : (List (Int × (Int × (Int × (Int × (Bool × (Bool × (ByteArray × Int))))))))) (a2 : Int) (a3 : Int) (a4 : Int) (a5 : Int) (a6 : Bool) (a7 : Bool) (a8 : ByteArray) (a9 : Int) (x17 : List (Int × (Int × (Int × (Int × (Bool × (Bool × (ByteArray × Int)))))))) (x18 : Int) : St := ⟨[.any, .v (.one (.sc (.int .i64 a2))), .any, .v (.one (.ptr 0 ⟨0, 0, 0, 0⟩)), .any, .v (.one (.ptr 1 ⟨0, 0, 0, 0⟩)), .v (.one (.ptr 2 ⟨0, 0, 0, 0⟩)), .v (.one (.os 3 0 0 8 (List.length x17) none)), .v (.one (.sc (.int .i64 x18))), .any, .any, .any, .any, .any, .any, .any, .any, .any, .any, .any, .any, .any, .any, .any, .any, .any, .any, .any, .any, .any, .any, .any, .any, .any, .any, .any, .any, .any, .any, .any, .any, .any, .any, .any], [.ex false [.c (.sc (.int .i64 a0)), .c (.fs (.pair (.int .i64) (.pair (.int .i64) (.pair (.int .i64) (.pair (.int .i64) (.pair .bool (.pair .bool (.pair .str (.int .i64)))))))) a1 false)] 53, .ex false [.c (.sc (.int .i64 a3)), .c (.sc (.int .i64 a4)), .c (.sc (.int .i64 a5)), .c (.sc (.bool a6)), .c (.sc (.bool a7)), .c (.sc (.string a8)), .c (.sc (.int .i64 a9))] 23, .ex false [.c (.sc (.int .i64 (0 : Int))), .c (.sc (.slice none 0 0))] 53, .gro false (.pair (.int .i64) (.pair (.int .i64) (.pair (.int .i64) (.pair (.int .i64) (.pair .bool (.pair .bool (.pair .str (.int .i64)))))))) x17 79], 0⟩
def halterref19_With.l0_Q (a0 : Int) (a1 : (List (Int × (Int × (Int × (Int × (Bool × (Bool × (ByteArray × Int))))))))) (a2 : Int) (a3 : Int) (a4 : Int) (a5 : Int) (a6 : Bool) (a7 : Bool) (a8 : ByteArray) (a9 : Int) (t : (List (Int × (Int × (Int × (Int × (Bool × (Bool × (ByteArray × Int))))))))) : Exit → St → Prop := fun e s => e = (.exit 0) ∧ s = ⟨[.any, .any, .any, .v (.one (.ptr 0 ⟨0, 0, 0, 0⟩)), .any, .any, .v (.one (.ptr 2 ⟨0, 0, 0, 0⟩)), .v (.one (.os 3 0 0 8 (List.length t) none)), .any, .any, .any, .any, .any, .any, .any, .any, .any, .any, .any, .any, .any, .any, .any, .any, .any, .any, .any, .any, .any, .any, .any, .any, .any, .any, .any, .any, .any, .any, .any, .any, .any, .any, .any, .any], [.ex false [.c (.sc (.int .i64 a0)), .c (.fs (.pair (.int .i64) (.pair (.int .i64) (.pair (.int .i64) (.pair (.int .i64) (.pair .bool (.pair .bool (.pair .str (.int .i64)))))))) a1 false)] 53, .ex false [.c (.sc (.int .i64 a3)), .c (.sc (.int .i64 a4)), .c (.sc (.int .i64 a5)), .c (.sc (.bool a6)), .c (.sc (.bool a7)), .c (.sc (.string a8)), .c (.sc (.int .i64 a9))] 23, .ex false [.c (.sc (.int .i64 (0 : Int))), .c (.sc (.slice none 0 0))] 53, .gro false (.pair (.int .i64) (.pair (.int .i64) (.pair (.int .i64) (.pair (.int .i64) (.pair .bool (.pair .bool (.pair .str (.int .i64)))))))) t 79], 0⟩
theorem halterref19_With.l0_ok (a0 : Int) (a1 : (List (Int × (Int × (Int × (Int × (Bool × (Bool × (ByteArray × Int))))))))) (a2 : Int) (a3 : Int) (a4 : Int) (a5 : Int) (a6 : Bool) (a7 : Bool) (a8 : ByteArray) (a9 : Int) : ∀ (n : Nat) (x17 : List (Int × (Int × (Int × (Int × (Bool × (Bool × (ByteArray × Int)))))))) (x18 : Int) (r : (List (Int × (Int × (Int × (Int × (Bool × (Bool × (ByteArray × Int))))))))), halterref19_With.l0 a0 a1 a2 a3 a4 a5 a6 a7 a8 a9 n x17 x18 = some r → TripN cfg (cpath (Tryd.f26.body.getD .skip) [1, 1, 0, 1, 0, 0]) n (halterref19_With.l0_S a0 a1 a2 a3 a4 a5 a6 a7 a8 a9 x17 x18) (halterref19_With.l0_Q a0 a1 a2 a3 a4 a5 a6 a7 a8 a9 r) := by
  intro n
  induction n with
  | zero => intro x17 x18 r h; cases h
  | succ n ih =>
    intro x17 x18 r h
    rw [halterref19_With.l0] at h
    refine TripN.of_run cfg_ok (k := (.br (.br (.d (.b false) (.adj [] (.adj [.keep [1, 3, 5, 6, 7, 8], .drop 4] .nil))) (.br (.d (.b false) (.adj [] (.adj [.keep [1, 3, 5, 6, 7, 8], .drop 4] .nil))) (.adj [] (.adj [] (.adj [.keep [1, 3, 5, 6, 7, 8], .drop 4] .nil))))) (.adj [.keep [3, 6, 7], .drop 4] .nil))) (to_goal (q := (True) ∧ (True) ∧ (True) ∧ (((decide (x18 < (((List.length a1) : Nat) : Int))) = true → (True) ∧ (0 ≤ x18 ∧ x18 < (((List.length a1) : Nat) : Int)) ∧ (True) ∧ (True) ∧ ((((List.getD a1 (Int.toNat x18) ((0 : Int), ((0 : Int), ((0 : Int), ((0 : Int), (false, (false, (ByteArray.empty, (0 : Int))))))))).1 != a2) = true → (True) ∧ (0 ≤ x18 ∧ x18 < (((List.length a1) : Nat) : Int)) ∧ (True) ∧ (0 + 1 ≤ 1 ∧ 0 = 0 ∧ (List.length x17) = (List.length x17) ∧ (((List.length x17) + (List.length (List.take 1 [((List.getD a1 (Int.toNat x18) ((0 : Int), ((0 : Int), ((0 : Int), ((0 : Int), (false, (false, (ByteArray.empty, (0 : Int))))))))).1, ((List.getD a1 (Int.toNat x18) ((0 : Int), ((0 : Int), ((0 : Int), ((0 : Int), (false, (false, (ByteArray.empty, (0 : Int))))))))).2.1, ((List.getD a1 (Int.toNat x18) ((0 : Int), ((0 : Int), ((0 : Int), ((0 : Int), (false, (false, (ByteArray.empty, (0 : Int))))))))).2.2.1, ((List.getD a1 (Int.toNat x18) ((0 : Int), ((0 : Int), ((0 : Int), ((0 : Int), (false, (false, (ByteArray.empty, (0 : Int))))))))).2.2.2.1, ((List.getD a1 (Int.toNat x18) ((0 : Int), ((0 : Int), ((0 : Int), ((0 : Int), (false, (false, (ByteArray.empty, (0 : Int))))))))).2.2.2.2.1, ((List.getD a1 (Int.toNat x18) ((0 : Int), ((0 : Int), ((0 : Int), ((0 : Int), (false, (false, (ByteArray.empty, (0 : Int))))))))).2.2.2.2.2.1, ((List.getD a1 (Int.toNat x18) ((0 : Int), ((0 : Int), ((0 : Int), ((0 : Int), (false, (false, (ByteArray.empty, (0 : Int))))))))).2.2.2.2.2.2.1, (List.getD a1 (Int.toNat x18) ((0 : Int), ((0 : Int), ((0 : Int), ((0 : Int), (false, (false, (ByteArray.empty, (0 : Int))))))))).2.2.2.2.2.2.2)))))))]))) * 64 ≤ 140737488355328 ∧ (List.length x17) + (List.length (List.take 1 [((List.getD a1 (Int.toNat x18) ((0 : Int), ((0 : Int), ((0 : Int), ((0 : Int), (false, (false, (ByteArray.empty, (0 : Int))))))))).1, ((List.getD a1 (Int.toNat x18) ((0 : Int), ((0 : Int), ((0 : Int), ((0 : Int), (false, (false, (ByteArray.empty, (0 : Int))))))))).2.1, ((List.getD a1 (Int.toNat x18) ((0 : Int), ((0 : Int), ((0 : Int), ((0 : Int), (false, (false, (ByteArray.empty, (0 : Int))))))))).2.2.1, ((List.getD a1 (Int.toNat x18) ((0 : Int), ((0 : Int), ((0 : Int), ((0 : Int), (false, (false, (ByteArray.empty, (0 : Int))))))))).2.2.2.1, ((List.getD a1 (Int.toNat x18) ((0 : Int), ((0 : Int), ((0 : Int), ((0 : Int), (false, (false, (ByteArray.empty, (0 : Int))))))))).2.2.2.2.1, ((List.getD a1 (Int.toNat x18) ((0 : Int), ((0 : Int), ((0 : Int), ((0 : Int), (false, (false, (ByteArray.empty, (0 : Int))))))))).2.2.2.2.2.1, ((List.getD a1 (Int.toNat x18) ((0 : Int), ((0 : Int), ((0 : Int), ((0 : Int), (false, (false, (ByteArray.empty, (0 : Int))))))))).2.2.2.2.2.2.1, (List.getD a1 (Int.toNat x18) ((0 : Int), ((0 : Int), ((0 : Int), ((0 : Int), (false, (false, (ByteArray.empty, (0 : Int))))))))).2.2.2.2.2.2.2)))))))])) ≤ 9223372036854775807)) ∧ (True ∧ (True) ∧ (((True) ∧ (True) ∧ True) ∧ TripN cfg (cpath (Tryd.f26.body.getD .skip) [1, 1, 0, 1, 0, 0]) n (halterref19_With.l0_S a0 a1 a2 a3 a4 a5 a6 a7 a8 a9 (x17 ++ (List.take 1 [((List.getD a1 (Int.toNat x18) ((0 : Int), ((0 : Int), ((0 : Int), ((0 : Int), (false, (false, (ByteArray.empty, (0 : Int))))))))).1, ((List.getD a1 (Int.toNat x18) ((0 : Int), ((0 : Int), ((0 : Int), ((0 : Int), (false, (false, (ByteArray.empty, (0 : Int))))))))).2.1, ((List.getD a1 (Int.toNat x18) ((0 : Int), ((0 : Int), ((0 : Int), ((0 : Int), (false, (false, (ByteArray.empty, (0 : Int))))))))).2.2.1, ((List.getD a1 (Int.toNat x18) ((0 : Int), ((0 : Int), ((0 : Int), ((0 : Int), (false, (false, (ByteArray.empty, (0 : Int))))))))).2.2.2.1, ((List.getD a1 (Int.toNat x18) ((0 : Int), ((0 : Int), ((0 : Int), ((0 : Int), (false, (false, (ByteArray.empty, (0 : Int))))))))).2.2.2.2.1, ((List.getD a1 (Int.toNat x18) ((0 : Int), ((0 : Int), ((0 : Int), ((0 : Int), (false, (false, (ByteArray.empty, (0 : Int))))))))).2.2.2.2.2.1, ((List.getD a1 (Int.toNat x18) ((0 : Int), ((0 : Int), ((0 : Int), ((0 : Int), (false, (false, (ByteArray.empty, (0 : Int))))))))).2.2.2.2.2.2.1, (List.getD a1 (Int.toNat x18) ((0 : Int), ((0 : Int), ((0 : Int), ((0 : Int), (false, (false, (ByteArray.empty, (0 : Int))))))))).2.2.2.2.2.2.2)))))))])) (IntKind.wrap .i64 (x18 + (1 : Int)))) (halterref19_With.l0_Q a0 a1 a2 a3 a4 a5 a6 a7 a8 a9 r)))) ∧ (((List.getD a1 (Int.toNat x18) ((0 : Int), ((0 : Int), ((0 : Int), ((0 : Int), (false, (false, (ByteArray.empty, (0 : Int))))))))).1 != a2) = false → (True) ∧ (True) ∧ (((decide (a9 > (0 : Int))) = true → (True) ∧ (0 + 1 ≤ 1 ∧ 0 = 0 ∧ (List.length x17) = (List.length x17) ∧ (((List.length x17) + (List.length (List.take 1 [(a2, (a3, (a4, (a5, (a6, (a7, (a8, a9)))))))]))) * 64 ≤ 140737488355328 ∧ (List.length x17) + (List.length (List.take 1 [(a2, (a3, (a4, (a5, (a6, (a7, (a8, a9)))))))])) ≤ 9223372036854775807)) ∧ (True ∧ (True) ∧ (((True) ∧ (True) ∧ True) ∧ TripN cfg (cpath (Tryd.f26.body.getD .skip) [1, 1, 0, 1, 0, 0]) n (halterref19_With.l0_S a0 a1 a2 a3 a4 a5 a6 a7 a8 a9 (x17 ++ (List.take 1 [(a2, (a3, (a4, (a5, (a6, (a7, (a8, a9)))))))])) (IntKind.wrap .i64 (x18 + (1 : Int)))) (halterref19_With.l0_Q a0 a1 a2 a3 a4 a5 a6 a7 a8 a9 r)))) ∧ ((decide (a9 > (0 : Int))) = false → (True ∧ (True ∧ (True) ∧ (((True) ∧ (True) ∧ True) ∧ TripN cfg (cpath (Tryd.f26.body.getD .skip) [1, 1, 0, 1, 0, 0]) n (halterref19_With.l0_S a0 a1 a2 a3 a4 a5 a6 a7 a8 a9 x17 (IntKind.wrap .i64 (x18 + (1 : Int)))) (halterref19_With.l0_Q a0 a1 a2 a3 a4 a5 a6 a7 a8 a9 r))))))))) ∧ ((decide (x18 < (((List.length a1) : Nat) : Int))) = false → (((True) ∧ (True) ∧ True) ∧ halterref19_With.l0_Q a0 a1 a2 a3 a4 a5 a6 a7 a8 a9 r (.exit 0) ⟨[.any, .any, .any, .v (.one (.ptr 0 ⟨0, 0, 0, 0⟩)), .any, .any, .v (.one (.ptr 2 ⟨0, 0, 0, 0⟩)), .v (.one (.os 3 0 0 8 (List.length x17) none)), .any, .any, .any, .any, .any, .any, .any, .any, .any, .any, .any, .any, .any, .any, .any, .any, .any, .any, .any, .any, .any, .any, .any, .any, .any, .any, .any, .any, .any, .any, .any, .any, .any, .any, .any, .any], [.ex false [.c (.sc (.int .i64 a0)), .c (.fs (.pair (.int .i64) (.pair (.int .i64) (.pair (.int .i64) (.pair (.int .i64) (.pair .bool (.pair .bool (.pair .str (.int .i64)))))))) a1 false)] 53, .ex false [.c (.sc (.int .i64 a3)), .c (.sc (.int .i64 a4)), .c (.sc (.int .i64 a5)), .c (.sc (.bool a6)), .c (.sc (.bool a7)), .c (.sc (.string a8)), .c (.sc (.int .i64 a9))] 23, .ex false [.c (.sc (.int .i64 (0 : Int))), .c (.sc (.slice none 0 0))] 53, .gro false (.pair (.int .i64) (.pair (.int .i64) (.pair (.int .i64) (.pair (.int .i64) (.pair .bool (.pair .bool (.pair .str (.int .i64)))))))) x17 79], 0⟩)))) (by kernel_rfl) ?_)
    refine ⟨trivial, ?_⟩
    refine ⟨trivial, ?_⟩
    refine ⟨trivial, ?_⟩
    refine ⟨fun b28 => ?_, fun b28 => ?_⟩
    · rw [if_pos (of_decide_eq_true b28)] at h
      refine ⟨trivial, ?_⟩
      obtain ⟨g34, h⟩ := of_guard h
      refine ⟨g34, ?_⟩
      refine ⟨trivial, ?_⟩
      refine ⟨trivial, ?_⟩
      refine ⟨fun b29 => ?_, fun b29 => ?_⟩
      · rw [if_pos (bne_t b29)] at h
        refine ⟨trivial, ?_⟩
        obtain ⟨g31, h⟩ := of_guard h
        refine ⟨g31, ?_⟩
        refine ⟨trivial, ?_⟩
        obtain ⟨g30, h⟩ := of_guard h
        refine ⟨g30, ?_⟩
        refine ⟨trivial, ?_⟩
        refine ⟨trivial, ?_⟩
        exact ⟨⟨trivial, trivial, trivial⟩, ih (x17 ++ (List.take 1 [((List.getD a1 (Int.toNat x18) ((0 : Int), ((0 : Int), ((0 : Int), ((0 : Int), (false, (false, (ByteArray.empty, (0 : Int))))))))).1, ((List.getD a1 (Int.toNat x18) ((0 : Int), ((0 : Int), ((0 : Int), ((0 : Int), (false, (false, (ByteArray.empty, (0 : Int))))))))).2.1, ((List.getD a1 (Int.toNat x18) ((0 : Int), ((0 : Int), ((0 : Int), ((0 : Int), (false, (false, (ByteArray.empty, (0 : Int))))))))).2.2.1, ((List.getD a1 (Int.toNat x18) ((0 : Int), ((0 : Int), ((0 : Int), ((0 : Int), (false, (false, (ByteArray.empty, (0 : Int))))))))).2.2.2.1, ((List.getD a1 (Int.toNat x18) ((0 : Int), ((0 : Int), ((0 : Int), ((0 : Int), (false, (false, (ByteArray.empty, (0 : Int))))))))).2.2.2.2.1, ((List.getD a1 (Int.toNat x18) ((0 : Int), ((0 : Int), ((0 : Int), ((0 : Int), (false, (false, (ByteArray.empty, (0 : Int))))))))).2.2.2.2.2.1, ((List.getD a1 (Int.toNat x18) ((0 : Int), ((0 : Int), ((0 : Int), ((0 : Int), (false, (false, (ByteArray.empty, (0 : Int))))))))).2.2.2.2.2.2.1, (List.getD a1 (Int.toNat x18) ((0 : Int), ((0 : Int), ((0 : Int), ((0 : Int), (false, (false, (ByteArray.empty, (0 : Int))))))))).2.2.2.2.2.2.2)))))))])) (IntKind.wrap .i64 (x18 + (1 : Int))) r h⟩
      · rw [if_neg (not_not_intro (bne_f b29))] at h
        refine ⟨trivial, ?_⟩
        refine ⟨trivial, ?_⟩
        refine ⟨fun b32 => ?_, fun b32 => ?_⟩
        · rw [if_pos (of_decide_eq_true b32)] at h
          refine ⟨trivial, ?_⟩
          obtain ⟨g33, h⟩ := of_guard h
          refine ⟨g33, ?_⟩
          refine ⟨trivial, ?_⟩
          refine ⟨trivial, ?_⟩
          exact ⟨⟨trivial, trivial, trivial⟩, ih (x17 ++ (List.take 1 [(a2, (a3, (a4, (a5, (a6, (a7, (a8, a9)))))))])) (IntKind.wrap .i64 (x18 + (1 : Int))) r h⟩
        · rw [if_neg (of_decide_eq_false b32)] at h
          refine ⟨trivial, ?_⟩
          refine ⟨trivial, ?_⟩
          refine ⟨trivial, ?_⟩
          exact ⟨⟨trivial, trivial, trivial⟩, ih x17 (IntKind.wrap .i64 (x18 + (1 : Int))) r h⟩
    · rw [if_neg (of_decide_eq_false b28)] at h
      obtain rfl := Option.some.inj h
      exact ⟨⟨trivial, trivial, trivial⟩, rfl, rfl⟩
def halterref19_With.f (a0 : Int) (a1 : (List (Int × (Int × (Int × (Int × (Bool × (Bool × (ByteArray × Int))))))))) (a2 : Int) (a3 : Int) (a4 : Int) (a5 : Int) (a6 : Bool) (a7 : Bool) (a8 : ByteArray) (a9 : Int) : Option (Int × (List (Int × (Int × (Int × (Int × (Bool × (Bool × (ByteArray × Int))))))))) :=
  (halterref19_With.l0 a0 a1 a2 a3 a4 a5 a6 a7 a8 a9 FUEL ([] : List (Int × (Int × (Int × (Int × (Bool × (Bool × (ByteArray × Int)))))))) (0 : Int)).bind fun t27 =>
  some (a0, t27)
def halterref19_With.R (r : Int × (List (Int × (Int × (Int × (Int × (Bool × (Bool × (ByteArray × Int))))))))) : Tm := .v (.agg [.c (.sc (.int .i64 r.1)), .c (.fs (.pair (.int .i64) (.pair (.int .i64) (.pair (.int .i64) (.pair (.int .i64) (.pair .bool (.pair .bool (.pair .str (.int .i64)))))))) r.2 false)])
theorem halterref19_With.fun_ {a0 : Int} {a1 : (List (Int × (Int × (Int × (Int × (Bool × (Bool × (ByteArray × Int))))))))} {a2 : Int} {a3 : Int} {a4 : Int} {a5 : Int} {a6 : Bool} {a7 : Bool} {a8 : ByteArray} {a9 : Int} {r : Int × (List (Int × (Int × (Int × (Int × (Bool × (Bool × (ByteArray × Int))))))))} (h : halterref19_With.f a0 a1 a2 a3 a4 a5 a6 a7 a8 a9 = some r) : Fun cfg 26 [.agg [.c (.sc (.int .i64 a0)), .c (.fs (.pair (.int .i64) (.pair (.int .i64) (.pair (.int .i64) (.pair (.int .i64) (.pair .bool (.pair .bool (.pair .str (.int .i64)))))))) a1 false)], .one (.sc (.int .i64 a2)), .agg [.c (.sc (.int .i64 a3)), .c (.sc (.int .i64 a4)), .c (.sc (.int .i64 a5)), .c (.sc (.bool a6)), .c (.sc (.bool a7)), .c (.sc (.string a8)), .c (.sc (.int .i64 a9))]] [] (halterref19_With.R r) [] := by
  unfold halterref19_With.f at h
  refine fun_of_run cfg_ok (f := 26) (fn := Tryd.f26) Tryd.func26 rfl (by kernel_rfl) (rs := [.cell 6 53]) rfl (nt := 44) rfl (l := fin) (k := (.adj [] (.adj [] (.adj [] (.adj [] (.adj [.keep [1, 3, 5, 6, 7, 8], .nilGro 7 (.pair (.int .i64) (.pair (.int .i64) (.pair (.int .i64) (.pair (.int .i64) (.pair .bool (.pair .bool (.pair .str (.int .i64)))))))) 79] (.sub ((List (Int × (Int × (Int × (Int × (Bool × (Bool × (ByteArray × Int))))))))) (fun _ => (.exit 0)) (fun t27 => ⟨[.any, .any, .any, .v (.one (.ptr 0 ⟨0, 0, 0, 0⟩)), .any, .any, .v (.one (.ptr 2 ⟨0, 0, 0, 0⟩)), .v (.one (.os 3 0 0 8 (List.length t27) none)), .any, .any, .any, .any, .any, .any, .any, .any, .any, .any, .any, .any, .any, .any, .any, .any, .any, .any, .any, .any, .any, .any, .any, .any, .any, .any, .any, .any, .any, .any, .any, .any, .any, .any, .any, .any], [.ex false [.c (.sc (.int .i64 a0)), .c (.fs (.pair (.int .i64) (.pair (.int .i64) (.pair (.int .i64) (.pair (.int .i64) (.pair .bool (.pair .bool (.pair .str (.int .i64)))))))) a1 false)] 53, .ex false [.c (.sc (.int .i64 a3)), .c (.sc (.int .i64 a4)), .c (.sc (.int .i64 a5)), .c (.sc (.bool a6)), .c (.sc (.bool a7)), .c (.sc (.string a8)), .c (.sc (.int .i64 a9))] 23, .ex false [.c (.sc (.int .i64 (0 : Int))), .c (.sc (.slice none 0 0))] 53, .gro false (.pair (.int .i64) (.pair (.int .i64) (.pair (.int .i64) (.pair (.int .i64) (.pair .bool (.pair .bool (.pair .str (.int .i64)))))))) t27 79], 0⟩) (fun t27 => (.adj [] (.adj [] (.adj [] (.adj [.co 0 true [], .drop 0] .nil)))))))))))) (to_goal (q := (True ∧ (True ∧ (True ∧ (True ∧ (((True) ∧ (True) ∧ True) ∧ (∃ t27 : (List (Int × (Int × (Int × (Int × (Bool × (Bool × (ByteArray × Int)))))))), Trip cfg (.loop (cpath (Tryd.f26.body.getD .skip) [1, 1, 0, 1, 0, 0])) ⟨[.any, .v (.one (.sc (.int .i64 a2))), .any, .v (.one (.ptr 0 ⟨0, 0, 0, 0⟩)), .any, .v (.one (.ptr 1 ⟨0, 0, 0, 0⟩)), .v (.one (.ptr 2 ⟨0, 0, 0, 0⟩)), .v (.one (.os 3 0 0 8 0 none)), .v (.one (.sc (.int .i64 (0 : Int)))), .any, .any, .any, .any, .any, .any, .any, .any, .any, .any, .any, .any, .any, .any, .any, .any, .any, .any, .any, .any, .any, .any, .any, .any, .any, .any, .any, .any, .any, .any, .any, .any, .any, .any, .any], [.ex false [.c (.sc (.int .i64 a0)), .c (.fs (.pair (.int .i64) (.pair (.int .i64) (.pair (.int .i64) (.pair (.int .i64) (.pair .bool (.pair .bool (.pair .str (.int .i64)))))))) a1 false)] 53, .ex false [.c (.sc (.int .i64 a3)), .c (.sc (.int .i64 a4)), .c (.sc (.int .i64 a5)), .c (.sc (.bool a6)), .c (.sc (.bool a7)), .c (.sc (.string a8)), .c (.sc (.int .i64 a9))] 23, .ex false [.c (.sc (.int .i64 (0 : Int))), .c (.sc (.slice none 0 0))] 53, .gro false (.pair (.int .i64) (.pair (.int .i64) (.pair (.int .i64) (.pair (.int .i64) (.pair .bool (.pair .bool (.pair .str (.int .i64)))))))) ([] : List (Int × (Int × (Int × (Int × (Bool × (Bool × (ByteArray × Int)))))))) 79], 0⟩ (fun e s => e = (.exit 0) ∧ s = ⟨[.any, .any, .any, .v (.one (.ptr 0 ⟨0, 0, 0, 0⟩)), .any, .any, .v (.one (.ptr 2 ⟨0, 0, 0, 0⟩)), .v (.one (.os 3 0 0 8 (List.length t27) none)), .any, .any, .any, .any, .any, .any, .any, .any, .any, .any, .any, .any, .any, .any, .any, .any, .any, .any, .any, .any, .any, .any, .any, .any, .any, .any, .any, .any, .any, .any, .any, .any, .any, .any, .any, .any], [.ex false [.c (.sc (.int .i64 a0)), .c (.fs (.pair (.int .i64) (.pair (.int .i64) (.pair (.int .i64) (.pair (.int .i64) (.pair .bool (.pair .bool (.pair .str (.int .i64)))))))) a1 false)] 53, .ex false [.c (.sc (.int .i64 a3)), .c (.sc (.int .i64 a4)), .c (.sc (.int .i64 a5)), .c (.sc (.bool a6)), .c (.sc (.bool a7)), .c (.sc (.string a8)), .c (.sc (.int .i64 a9))] 23, .ex false [.c (.sc (.int .i64 (0 : Int))), .c (.sc (.slice none 0 0))] 53, .gro false (.pair (.int .i64) (.pair (.int .i64) (.pair (.int .i64) (.pair (.int .i64) (.pair .bool (.pair .bool (.pair .str (.int .i64)))))))) t27 79], 0⟩) ∧ (True ∧ (True) ∧ (True ∧ (True) ∧ (True) ∧ (True ∧ (((True) ∧ True) ∧ ((((0 = 0 ∧ (List.length t27) = (List.length t27))) ∧ True) ∧ (True) ∧ True) ∧ (.v (.agg [.c (.sc (.int .i64 a0)), .c (.fs (.pair (.int .i64) (.pair (.int .i64) (.pair (.int .i64) (.pair (.int .i64) (.pair .bool (.pair .bool (.pair .str (.int .i64)))))))) t27 false)]) : Tm) = halterref19_With.R r ∧ ([] : List Box) = []))))))))))) (by kernel_rfl) ?_)
  refine ⟨trivial, ?_⟩
  refine ⟨trivial, ?_⟩
  refine ⟨trivial, ?_⟩
  refine ⟨trivial, ?_⟩
  obtain ⟨t27, ht27, h⟩ := of_bind h
  refine ⟨⟨trivial, trivial, trivial⟩, t27, Trip.loop FUEL (halterref19_With.l0_ok a0 a1 a2 a3 a4 a5 a6 a7 a8 a9 FUEL ([] : List (Int × (Int × (Int × (Int × (Bool × (Bool × (ByteArray × Int)))))))) (0 : Int) t27 ht27), ?_⟩
  refine ⟨trivial, ?_⟩
  refine ⟨trivial, ?_⟩
  refine ⟨trivial, ?_⟩
  refine ⟨trivial, ?_⟩
  refine ⟨trivial, ?_⟩
  refine ⟨trivial, ?_⟩
  obtain rfl := Option.some.inj h
  exact ⟨⟨trivial, trivial⟩, ⟨⟨⟨rfl, rfl⟩, trivial⟩, trivial, trivial⟩, rfl, rfl⟩
/-! halter/halterref19.Ref -/
def halterref19_Ref.c0 (t1 : TY2) (a3 : Int) : Box := .ex false [.c (.sc (.int .i64 t1.1)), .c (.sc (.int .i64 t1.2.1)), .c (.sc (.int .i64 (p2 t1))), .c (.sc (.bool (p3 t1))), .c (.sc (.bool (p4 t1))), .c (.sc (.string (p5 t1))), .c (.sc (.int .i64 (IntKind.wrap .i64 ((p6 t1) + a3))))] 23
def halterref19_Ref.c1 (t1 : TY2) (a3 : Int) : AV := .agg [.c (.sc (.int .i64 t1.1)), .c (.sc (.int .i64 t1.2.1)), .c (.sc (.int .i64 (p2 t1))), .c (.sc (.bool (p3 t1))), .c (.sc (.bool (p4 t1))), .c (.sc (.string (p5 t1))), .c (.sc (.int .i64 (IntKind.wrap .i64 ((p6 t1) + a3))))]
def halterref19_Ref.c2 (t1 : TY2) : AV := .agg [.c (.sc (.int .i64 t1.1)), .c (.sc (.int .i64 t1.2.1)), .c (.sc (.int .i64 (p2 t1))), .c (.sc (.bool (p3 t1))), .c (.sc (.bool (p4 t1))), .c (.sc (.string (p5 t1))), .c (.sc (.int .i64 (p6 t1)))]
def halterref19_Ref.c3 : AV := .agg [.c (.sc (.int .i64 (0 : Int))), .c (.sc (.int .i64 (0 : Int))), .c (.sc (.int .i64 (0 : Int))), .c (.sc (.bool false)), .c (.sc (.bool false)), .c (.sc (.string ByteArray.empty)), .c (.sc (.int .i64 (0 : Int)))]
def halterref19_Ref.f (a0 : Int) (a1 : (List (Int × (Int × (Int × (Int × (Bool × (Bool × (ByteArray × Int))))))))) (a2 : Int) (a3 : Int) : Option (Int × (List (Int × (Int × (Int × (Int × (Bool × (Bool × (ByteArray × Int)))))))) × Int × Int × Int × Bool × Bool × ByteArray × Int × Int) :=
  (halterref19_Get.f a0 a1 a2).bind fun t1 =>
  if ¬ t1.2.2.2.2.2.2.2 = (0 : Int) then
    some (a0, a1, (0 : Int), (0 : Int), (0 : Int), false, false, ByteArray.empty, (0 : Int), t1.2.2.2.2.2.2.2)
  else
    if (IntKind.wrap .i64 (t1.2.2.2.2.2.2.1 + a3)) > (1048576 : Int) then
      some (a0, a1, (0 : Int), (0 : Int), (0 : Int), false, false, ByteArray.empty, (0 : Int), (22 : Int))
    else
      (halterref19_With.f a0 a1 a2 t1.1 t1.2.1 t1.2.2.1 t1.2.2.2.1 t1.2.2.2.2.1 t1.2.2.2.2.2.1 (IntKind.wrap .i64 (t1.2.2.2.2.2.2.1 + a3))).bind fun t4 =>
      some (t4.1, t4.2, t1.1, t1.2.1, t1.2.2.1, t1.2.2.2.1, t1.2.2.2.2.1, t1.2.2.2.2.2.1, (IntKind.wrap .i64 (t1.2.2.2.2.2.2.1 + a3)), (0 : Int))
def halterref19_Ref.R (r : Int × (List (Int × (Int × (Int × (Int × (Bool × (Bool × (ByteArray × Int)))))))) × Int × Int × Int × Bool × Bool × ByteArray × Int × Int) : Tm := .tup [.agg [.c (.sc (.int .i64 r.1)), .c (.fs (.pair (.int .i64) (.pair (.int .i64) (.pair (.int .i64) (.pair (.int .i64) (.pair .bool (.pair .bool (.pair .str (.int .i64)))))))) r.2.1 false)], .agg [.c (.sc (.int .i64 r.2.2.1)), .c (.sc (.int .i64 r.2.2.2.1)), .c (.sc (.int .i64 r.2.2.2.2.1)), .c (.sc (.bool r.2.2.2.2.2.1)), .c (.sc (.bool r.2.2.2.2.2.2.1)), .c (.sc (.string r.2.2.2.2.2.2.2.1)), .c (.sc (.int .i64 r.2.2.2.2.2.2.2.2.1))], .one (.sc (.int .i64 r.2.2.2.2.2.2.2.2.2))]
theorem halterref19_Ref.fun_ {a0 : Int} {a1 : (List (Int × (Int × (Int × (Int × (Bool × (Bool × (ByteArray × Int))))))))} {a2 : Int} {a3 : Int} {r : Int × (List (Int × (Int × (Int × (Int × (Bool × (Bool × (ByteArray × Int)))))))) × Int × Int × Int × Bool × Bool × ByteArray × Int × Int} (h : halterref19_Ref.f a0 a1 a2 a3 = some r) : Fun cfg 18 [.agg [.c (.sc (.int .i64 a0)), .c (.fs (.pair (.int .i64) (.pair (.int .i64) (.pair (.int .i64) (.pair (.int .i64) (.pair .bool (.pair .bool (.pair .str (.int .i64)))))))) a1 false)], .one (.sc (.int .i64 a2)), .one (.sc (.int .i64 a3))] [] (halterref19_Ref.R r) [] := by
  unfold halterref19_Ref.f at h
  refine fun_of_run cfg_ok (f := 18) (fn := Tryd.f18) Tryd.func18 rfl (by kernel_rfl) (rs := [.cell 6 53, .cell 7 23, .tmp 8]) rfl (nt := 37) rfl (l := fin) (k := (.call true [] (TY2) (fun t1 => halterref19_Get.R t1) (fun t1 => (.br (.adj [] (.adj [] (.adj [.drop 0] .nil))) (.br (.adj [] (.adj [] (.adj [.drop 0] .nil))) (.ex (Int × (List (Int × (Int × (Int × (Int × (Bool × (Bool × (ByteArray × Int))))))))) (fun t4 => (.drP [(1, dN), (0, dN), (2, dN), (3, ⟨none, .callP true [] (halterref19_With.R t4), false⟩), (4, ⟨none, .no, true⟩), (5, ⟨none, .no, true⟩), (6, dN), (7, dN)] [([1, 0, 2, 3, 5, 4, 6, 7], [0, 1, 2, 3])] ⟨[.v (.agg [.c (.sc (.int .i64 a0)), .c (.fs (.pair (.int .i64) (.pair (.int .i64) (.pair (.int .i64) (.pair (.int .i64) (.pair .bool (.pair .bool (.pair .str (.int .i64)))))))) a1 false)]), .v (.one (.sc (.int .i64 a2))), .v (.one (.sc (.int .i64 a3))), .v (.one (.ptr 0 ⟨0, 0, 0, 0⟩)), .any, .any, .v (.one (.ptr 1 ⟨0, 0, 0, 0⟩)), .v (.one (.ptr 2 ⟨0, 0, 0, 0⟩)), .v (.one (.sc (.int .i64 (0 : Int)))), .v (.one (.ptr 3 ⟨0, 0, 0, 0⟩)), .v (.one (.sc (.int .i64 (z7 t1)))), .tup [(halterref19_Ref.c2 t1), .one (.sc (.int .i64 (z7 t1)))], .v (.agg [.c (.sc (.int .i64 a0)), .c (.fs (.pair (.int .i64) (.pair (.int .i64) (.pair (.int .i64) (.pair (.int .i64) (.pair .bool (.pair .bool (.pair .str (.int .i64)))))))) a1 false)]), .v (.one (.sc (.int .i64 a2))), .tup [(halterref19_Ref.c2 t1), .one (.sc (.int .i64 (z7 t1)))], .v ((halterref19_Ref.c2 t1)), .v (.one (.sc (.int .i64 (z7 t1)))), .v (.one (.sc (.int .i64 (z7 t1)))), .v (.one (.sc (.bool ((z7 t1) != (0 : Int))))), .any, .any, .any, .v (.one (.ptr 3 ⟨6, 0, 0, 0⟩)), .v (.one (.sc (.int .i64 (p6 t1)))), .v (.one (.sc (.int .i64 a3))), .v (.one (.sc (.int .i64 (IntKind.wrap .i64 ((p6 t1) + a3))))), .v (.one (.ptr 3 ⟨6, 0, 0, 0⟩)), .v (.one (.ptr 3 ⟨6, 0, 0, 0⟩)), .v (.one (.sc (.int .i64 (IntKind.wrap .i64 ((p6 t1) + a3))))), .v (.one (.sc (.bool (decide ((IntKind.wrap .i64 ((p6 t1) + a3)) > (1048576 : Int)))))), .any, .any, .v (.agg [.c (.sc (.int .i64 a0)), .c (.fs (.pair (.int .i64) (.pair (.int .i64) (.pair (.int .i64) (.pair (.int .i64) (.pair .bool (.pair .bool (.pair .str (.int .i64)))))))) a1 false)]), .v (.one (.sc (.int .i64 a2))), .v ((halterref19_Ref.c1 t1 a3)), .v (.agg [.c (.sc (.int .i64 t4.1)), .c (.fs (.pair (.int .i64) (.pair (.int .i64) (.pair (.int .i64) (.pair (.int .i64) (.pair .bool (.pair .bool (.pair .str (.int .i64)))))))) t4.2 false)]), .v ((halterref19_Ref.c1 t1 a3))], [.ex false [.c (.sc (.int .i64 a0)), .c (.fs (.pair (.int .i64) (.pair (.int .i64) (.pair (.int .i64) (.pair (.int .i64) (.pair .bool (.pair .bool (.pair .str (.int .i64)))))))) a1 false)] 53, .ex false [.c (.sc (.int .i64 t4.1)), .c (.fs (.pair (.int .i64) (.pair (.int .i64) (.pair (.int .i64) (.pair (.int .i64) (.pair .bool (.pair .bool (.pair .str (.int .i64)))))))) t4.2 false)] 53, (halterref19_Ref.c0 t1 a3), (halterref19_Ref.c0 t1 a3)], 0⟩ (.adj [] (.adj [.drop 0] .nil)))))))))) (to_goal (q := (True) ∧ (∃ t1 : TY2, (Fun cfg 21 [.agg [.c (.sc (.int .i64 a0)), .c (.fs (.pair (.int .i64) (.pair (.int .i64) (.pair (.int .i64) (.pair (.int .i64) (.pair .bool (.pair .bool (.pair .str (.int .i64)))))))) a1 false)], .one (.sc (.int .i64 a2))] [] (halterref19_Get.R t1) [] ∧ True) ∧ (True) ∧ (True) ∧ ((((z7 t1) != (0 : Int)) = true → (True ∧ (True) ∧ (True) ∧ (True) ∧ (True ∧ (((True) ∧ (True) ∧ True) ∧ ((True) ∧ True) ∧ (.tup [.agg [.c (.sc (.int .i64 a0)), .c (.fs (.pair (.int .i64) (.pair (.int .i64) (.pair (.int .i64) (.pair (.int .i64) (.pair .bool (.pair .bool (.pair .str (.int .i64)))))))) a1 false)], halterref19_Ref.c3, .one (.sc (.int .i64 (z7 t1)))] : Tm) = halterref19_Ref.R r ∧ ([] : List Box) = [])))) ∧ (((z7 t1) != (0 : Int)) = false → (True) ∧ (True) ∧ (True) ∧ (True) ∧ (True) ∧ (((decide ((IntKind.wrap .i64 ((p6 t1) + a3)) > (1048576 : Int))) = true → (True ∧ (True) ∧ (True) ∧ (True) ∧ (True ∧ (((True) ∧ (True) ∧ True) ∧ ((True) ∧ True) ∧ (.tup [.agg [.c (.sc (.int .i64 a0)), .c (.fs (.pair (.int .i64) (.pair (.int .i64) (.pair (.int .i64) (.pair (.int .i64) (.pair .bool (.pair .bool (.pair .str (.int .i64)))))))) a1 false)], halterref19_Ref.c3, .one (.sc (.int .i64 (22 : Int)))] : Tm) = halterref19_Ref.R r ∧ ([] : List Box) = [])))) ∧ ((decide ((IntKind.wrap .i64 ((p6 t1) + a3)) > (1048576 : Int))) = false → (∃ t4 : Int × (List (Int × (Int × (Int × (Int × (Bool × (Bool × (ByteArray × Int)))))))), (((True) ∧ (True) ∧ (Fun cfg 26 [.agg [.c (.sc (.int .i64 a0)), .c (.fs (.pair (.int .i64) (.pair (.int .i64) (.pair (.int .i64) (.pair (.int .i64) (.pair .bool (.pair .bool (.pair .str (.int .i64)))))))) a1 false)], .one (.sc (.int .i64 a2)), (halterref19_Ref.c1 t1 a3)] [] (halterref19_With.R t4) [] ∧ True) ∧ (True) ∧ (True) ∧ (True) ∧ (⟨[.v (.agg [.c (.sc (.int .i64 a0)), .c (.fs (.pair (.int .i64) (.pair (.int .i64) (.pair (.int .i64) (.pair (.int .i64) (.pair .bool (.pair .bool (.pair .str (.int .i64)))))))) a1 false)]), .v (.one (.sc (.int .i64 a2))), .v (.one (.sc (.int .i64 a3))), .v (.one (.ptr 0 ⟨0, 0, 0, 0⟩)), .any, .any, .v (.one (.ptr 1 ⟨0, 0, 0, 0⟩)), .v (.one (.ptr 2 ⟨0, 0, 0, 0⟩)), .v (.one (.sc (.int .i64 (0 : Int)))), .v (.one (.ptr 3 ⟨0, 0, 0, 0⟩)), .v (.one (.sc (.int .i64 (z7 t1)))), .tup [(halterref19_Ref.c2 t1), .one (.sc (.int .i64 (z7 t1)))], .v (.agg [.c (.sc (.int .i64 a0)), .c (.fs (.pair (.int .i64) (.pair (.int .i64) (.pair (.int .i64) (.pair (.int .i64) (.pair .bool (.pair .bool (.pair .str (.int .i64)))))))) a1 false)]), .v (.one (.sc (.int .i64 a2))), .tup [(halterref19_Ref.c2 t1), .one (.sc (.int .i64 (z7 t1)))], .v ((halterref19_Ref.c2 t1)), .v (.one (.sc (.int .i64 (z7 t1)))), .v (.one (.sc (.int .i64 (z7 t1)))), .v (.one (.sc (.bool ((z7 t1) != (0 : Int))))), .any, .any, .any, .v (.one (.ptr 3 ⟨6, 0, 0, 0⟩)), .v (.one (.sc (.int .i64 (p6 t1)))), .v (.one (.sc (.int .i64 a3))), .v (.one (.sc (.int .i64 (IntKind.wrap .i64 ((p6 t1) + a3))))), .v (.one (.ptr 3 ⟨6, 0, 0, 0⟩)), .v (.one (.ptr 3 ⟨6, 0, 0, 0⟩)), .v (.one (.sc (.int .i64 (IntKind.wrap .i64 ((p6 t1) + a3))))), .v (.one (.sc (.bool (decide ((IntKind.wrap .i64 ((p6 t1) + a3)) > (1048576 : Int)))))), .any, .any, .v (.agg [.c (.sc (.int .i64 a0)), .c (.fs (.pair (.int .i64) (.pair (.int .i64) (.pair (.int .i64) (.pair (.int .i64) (.pair .bool (.pair .bool (.pair .str (.int .i64)))))))) a1 false)]), .v (.one (.sc (.int .i64 a2))), .v ((halterref19_Ref.c1 t1 a3)), .v (.agg [.c (.sc (.int .i64 t4.1)), .c (.fs (.pair (.int .i64) (.pair (.int .i64) (.pair (.int .i64) (.pair (.int .i64) (.pair .bool (.pair .bool (.pair .str (.int .i64)))))))) t4.2 false)]), .v ((halterref19_Ref.c1 t1 a3))], [.ex false [.c (.sc (.int .i64 a0)), .c (.fs (.pair (.int .i64) (.pair (.int .i64) (.pair (.int .i64) (.pair (.int .i64) (.pair .bool (.pair .bool (.pair .str (.int .i64)))))))) a1 false)] 53, .ex false [.c (.sc (.int .i64 t4.1)), .c (.fs (.pair (.int .i64) (.pair (.int .i64) (.pair (.int .i64) (.pair (.int .i64) (.pair .bool (.pair .bool (.pair .str (.int .i64)))))))) t4.2 false)] 53, (halterref19_Ref.c0 t1 a3), (halterref19_Ref.c0 t1 a3)], 0⟩ : St) = ⟨[.v (.agg [.c (.sc (.int .i64 a0)), .c (.fs (.pair (.int .i64) (.pair (.int .i64) (.pair (.int .i64) (.pair (.int .i64) (.pair .bool (.pair .bool (.pair .str (.int .i64)))))))) a1 false)]), .v (.one (.sc (.int .i64 a2))), .v (.one (.sc (.int .i64 a3))), .v (.one (.ptr 0 ⟨0, 0, 0, 0⟩)), .any, .any, .v (.one (.ptr 1 ⟨0, 0, 0, 0⟩)), .v (.one (.ptr 2 ⟨0, 0, 0, 0⟩)), .v (.one (.sc (.int .i64 (0 : Int)))), .v (.one (.ptr 3 ⟨0, 0, 0, 0⟩)), .v (.one (.sc (.int .i64 (z7 t1)))), .tup [(halterref19_Ref.c2 t1), .one (.sc (.int .i64 (z7 t1)))], .v (.agg [.c (.sc (.int .i64 a0)), .c (.fs (.pair (.int .i64) (.pair (.int .i64) (.pair (.int .i64) (.pair (.int .i64) (.pair .bool (.pair .bool (.pair .str (.int .i64)))))))) a1 false)]), .v (.one (.sc (.int .i64 a2))), .tup [(halterref19_Ref.c2 t1), .one (.sc (.int .i64 (z7 t1)))], .v ((halterref19_Ref.c2 t1)), .v (.one (.sc (.int .i64 (z7 t1)))), .v (.one (.sc (.int .i64 (z7 t1)))), .v (.one (.sc (.bool ((z7 t1) != (0 : Int))))), .any, .any, .any, .v (.one (.ptr 3 ⟨6, 0, 0, 0⟩)), .v (.one (.sc (.int .i64 (p6 t1)))), .v (.one (.sc (.int .i64 a3))), .v (.one (.sc (.int .i64 (IntKind.wrap .i64 ((p6 t1) + a3))))), .v (.one (.ptr 3 ⟨6, 0, 0, 0⟩)), .v (.one (.ptr 3 ⟨6, 0, 0, 0⟩)), .v (.one (.sc (.int .i64 (IntKind.wrap .i64 ((p6 t1) + a3))))), .v (.one (.sc (.bool (decide ((IntKind.wrap .i64 ((p6 t1) + a3)) > (1048576 : Int)))))), .any, .any, .v (.agg [.c (.sc (.int .i64 a0)), .c (.fs (.pair (.int .i64) (.pair (.int .i64) (.pair (.int .i64) (.pair (.int .i64) (.pair .bool (.pair .bool (.pair .str (.int .i64)))))))) a1 false)]), .v (.one (.sc (.int .i64 a2))), .v ((halterref19_Ref.c1 t1 a3)), .v (.agg [.c (.sc (.int .i64 t4.1)), .c (.fs (.pair (.int .i64) (.pair (.int .i64) (.pair (.int .i64) (.pair (.int .i64) (.pair .bool (.pair .bool (.pair .str (.int .i64)))))))) t4.2 false)]), .v ((halterref19_Ref.c1 t1 a3))], [.ex false [.c (.sc (.int .i64 a0)), .c (.fs (.pair (.int .i64) (.pair (.int .i64) (.pair (.int .i64) (.pair (.int .i64) (.pair .bool (.pair .bool (.pair .str (.int .i64)))))))) a1 false)] 53, .ex false [.c (.sc (.int .i64 t4.1)), .c (.fs (.pair (.int .i64) (.pair (.int .i64) (.pair (.int .i64) (.pair (.int .i64) (.pair .bool (.pair .bool (.pair .str (.int .i64)))))))) t4.2 false)] 53, (halterref19_Ref.c0 t1 a3), (halterref19_Ref.c0 t1 a3)], 0⟩) ∧ (((True) ∧ (True) ∧ (Fun cfg 26 [.agg [.c (.sc (.int .i64 a0)), .c (.fs (.pair (.int .i64) (.pair (.int .i64) (.pair (.int .i64) (.pair (.int .i64) (.pair .bool (.pair .bool (.pair .str (.int .i64)))))))) a1 false)], .one (.sc (.int .i64 a2)), (halterref19_Ref.c1 t1 a3)] [] (halterref19_With.R t4) [] ∧ True) ∧ (True) ∧ (True) ∧ (True) ∧ True ∧ (⟨[.v (.agg [.c (.sc (.int .i64 a0)), .c (.fs (.pair (.int .i64) (.pair (.int .i64) (.pair (.int .i64) (.pair (.int .i64) (.pair .bool (.pair .bool (.pair .str (.int .i64)))))))) a1 false)]), .v (.one (.sc (.int .i64 a2))), .v (.one (.sc (.int .i64 a3))), .v (.one (.ptr 0 ⟨0, 0, 0, 0⟩)), .any, .any, .v (.one (.ptr 1 ⟨0, 0, 0, 0⟩)), .v (.one (.ptr 2 ⟨0, 0, 0, 0⟩)), .v (.one (.sc (.int .i64 (0 : Int)))), .v (.one (.ptr 3 ⟨0, 0, 0, 0⟩)), .v (.one (.sc (.int .i64 (z7 t1)))), .tup [(halterref19_Ref.c2 t1), .one (.sc (.int .i64 (z7 t1)))], .v (.agg [.c (.sc (.int .i64 a0)), .c (.fs (.pair (.int .i64) (.pair (.int .i64) (.pair (.int .i64) (.pair (.int .i64) (.pair .bool (.pair .bool (.pair .str (.int .i64)))))))) a1 false)]), .v (.one (.sc (.int .i64 a2))), .tup [(halterref19_Ref.c2 t1), .one (.sc (.int .i64 (z7 t1)))], .v ((halterref19_Ref.c2 t1)), .v (.one (.sc (.int .i64 (z7 t1)))), .v (.one (.sc (.int .i64 (z7 t1)))), .v (.one (.sc (.bool ((z7 t1) != (0 : Int))))), .any, .any, .any, .v (.one (.ptr 3 ⟨6, 0, 0, 0⟩)), .v (.one (.sc (.int .i64 (p6 t1)))), .v (.one (.sc (.int .i64 a3))), .v (.one (.sc (.int .i64 (IntKind.wrap .i64 ((p6 t1) + a3))))), .v (.one (.ptr 3 ⟨6, 0, 0, 0⟩)), .v (.one (.ptr 3 ⟨6, 0, 0, 0⟩)), .v (.one (.sc (.int .i64 (IntKind.wrap .i64 ((p6 t1) + a3))))), .v (.one (.sc (.bool (decide ((IntKind.wrap .i64 ((p6 t1) + a3)) > (1048576 : Int)))))), .any, .any, .v (.agg [.c (.sc (.int .i64 a0)), .c (.fs (.pair (.int .i64) (.pair (.int .i64) (.pair (.int .i64) (.pair (.int .i64) (.pair .bool (.pair .bool (.pair .str (.int .i64)))))))) a1 false)]), .v (.one (.sc (.int .i64 a2))), .v ((halterref19_Ref.c1 t1 a3)), .v (.agg [.c (.sc (.int .i64 t4.1)), .c (.fs (.pair (.int .i64) (.pair (.int .i64) (.pair (.int .i64) (.pair (.int .i64) (.pair .bool (.pair .bool (.pair .str (.int .i64)))))))) t4.2 false)]), .v ((halterref19_Ref.c1 t1 a3))], [.ex false [.c (.sc (.int .i64 a0)), .c (.fs (.pair (.int .i64) (.pair (.int .i64) (.pair (.int .i64) (.pair (.int .i64) (.pair .bool (.pair .bool (.pair .str (.int .i64)))))))) a1 false)] 53, .ex false [.c (.sc (.int .i64 t4.1)), .c (.fs (.pair (.int .i64) (.pair (.int .i64) (.pair (.int .i64) (.pair (.int .i64) (.pair .bool (.pair .bool (.pair .str (.int .i64)))))))) t4.2 false)] 53, (halterref19_Ref.c0 t1 a3), (halterref19_Ref.c0 t1 a3)], 0⟩ : St) = ⟨[.v (.agg [.c (.sc (.int .i64 a0)), .c (.fs (.pair (.int .i64) (.pair (.int .i64) (.pair (.int .i64) (.pair (.int .i64) (.pair .bool (.pair .bool (.pair .str (.int .i64)))))))) a1 false)]), .v (.one (.sc (.int .i64 a2))), .v (.one (.sc (.int .i64 a3))), .v (.one (.ptr 0 ⟨0, 0, 0, 0⟩)), .any, .any, .v (.one (.ptr 1 ⟨0, 0, 0, 0⟩)), .v (.one (.ptr 2 ⟨0, 0, 0, 0⟩)), .v (.one (.sc (.int .i64 (0 : Int)))), .v (.one (.ptr 3 ⟨0, 0, 0, 0⟩)), .v (.one (.sc (.int .i64 (z7 t1)))), .tup [(halterref19_Ref.c2 t1), .one (.sc (.int .i64 (z7 t1)))], .v (.agg [.c (.sc (.int .i64 a0)), .c (.fs (.pair (.int .i64) (.pair (.int .i64) (.pair (.int .i64) (.pair (.int .i64) (.pair .bool (.pair .bool (.pair .str (.int .i64)))))))) a1 false)]), .v (.one (.sc (.int .i64 a2))), .tup [(halterref19_Ref.c2 t1), .one (.sc (.int .i64 (z7 t1)))], .v ((halterref19_Ref.c2 t1)), .v (.one (.sc (.int .i64 (z7 t1)))), .v (.one (.sc (.int .i64 (z7 t1)))), .v (.one (.sc (.bool ((z7 t1) != (0 : Int))))), .any, .any, .any, .v (.one (.ptr 3 ⟨6, 0, 0, 0⟩)), .v (.one (.sc (.int .i64 (p6 t1)))), .v (.one (.sc (.int .i64 a3))), .v (.one (.sc (.int .i64 (IntKind.wrap .i64 ((p6 t1) + a3))))), .v (.one (.ptr 3 ⟨6, 0, 0, 0⟩)), .v (.one (.ptr 3 ⟨6, 0, 0, 0⟩)), .v (.one (.sc (.int .i64 (IntKind.wrap .i64 ((p6 t1) + a3))))), .v (.one (.sc (.bool (decide ((IntKind.wrap .i64 ((p6 t1) + a3)) > (1048576 : Int)))))), .any, .any, .v (.agg [.c (.sc (.int .i64 a0)), .c (.fs (.pair (.int .i64) (.pair (.int .i64) (.pair (.int .i64) (.pair (.int .i64) (.pair .bool (.pair .bool (.pair .str (.int .i64)))))))) a1 false)]), .v (.one (.sc (.int .i64 a2))), .v ((halterref19_Ref.c1 t1 a3)), .v (.agg [.c (.sc (.int .i64 t4.1)), .c (.fs (.pair (.int .i64) (.pair (.int .i64) (.pair (.int .i64) (.pair (.int .i64) (.pair .bool (.pair .bool (.pair .str (.int .i64)))))))) t4.2 false)]), .v ((halterref19_Ref.c1 t1 a3))], [.ex false [.c (.sc (.int .i64 a0)), .c (.fs (.pair (.int .i64) (.pair (.int .i64) (.pair (.int .i64) (.pair (.int .i64) (.pair .bool (.pair .bool (.pair .str (.int .i64)))))))) a1 false)] 53, .ex false [.c (.sc (.int .i64 t4.1)), .c (.fs (.pair (.int .i64) (.pair (.int .i64) (.pair (.int .i64) (.pair (.int .i64) (.pair .bool (.pair .bool (.pair .str (.int .i64)))))))) t4.2 false)] 53, (halterref19_Ref.c0 t1 a3), (halterref19_Ref.c0 t1 a3)], 0⟩) ∧ True) ∧ (True ∧ (((True) ∧ (True) ∧ True) ∧ ((True) ∧ True) ∧ (.tup [.agg [.c (.sc (.int .i64 t4.1)), .c (.fs (.pair (.int .i64) (.pair (.int .i64) (.pair (.int .i64) (.pair (.int .i64) (.pair .bool (.pair .bool (.pair .str (.int .i64)))))))) t4.2 false)], (halterref19_Ref.c1 t1 a3), .one (.sc (.int .i64 (0 : Int)))] : Tm) = halterref19_Ref.R r ∧ ([] : List Box) = [])))))))))) (by kernel_rfl) ?_)
  refine ⟨trivial, ?_⟩
  obtain ⟨t1, ht1, h⟩ := of_bind h
  refine ⟨t1, ⟨halterref19_Get.fun_ ht1, trivial⟩, ?_⟩
  refine ⟨trivial, ?_⟩
  refine ⟨trivial, ?_⟩
  refine ⟨fun b2 => ?_, fun b2 => ?_⟩
  · rw [if_pos (bne_t b2)] at h
    refine ⟨trivial, ?_⟩
    refine ⟨trivial, ?_⟩
    refine ⟨trivial, ?_⟩
    refine ⟨trivial, ?_⟩
    refine ⟨trivial, ?_⟩
    obtain rfl := Option.some.inj h
    exact ⟨⟨trivial, trivial, trivial⟩, ⟨trivial, trivial⟩, rfl, rfl⟩
  · rw [if_neg (not_not_intro (bne_f b2))] at h
    refine ⟨trivial, ?_⟩
    refine ⟨trivial, ?_⟩
    refine ⟨trivial, ?_⟩
    refine ⟨trivial, ?_⟩
    refine ⟨trivial, ?_⟩
    refine ⟨fun b3 => ?_, fun b3 => ?_⟩
    · rw [if_pos (of_decide_eq_true b3)] at h
      refine ⟨trivial, ?_⟩
      refine ⟨trivial, ?_⟩
      refine ⟨trivial, ?_⟩
      refine ⟨trivial, ?_⟩
      refine ⟨trivial, ?_⟩
      obtain rfl := Option.some.inj h
      exact ⟨⟨trivial, trivial, trivial⟩, ⟨trivial, trivial⟩, rfl, rfl⟩
    · rw [if_neg (of_decide_eq_false b3)] at h
      obtain ⟨t4, ht4, h⟩ := of_bind h
      refine ⟨t4, ?_⟩
      refine ⟨⟨trivial, trivial, ⟨halterref19_With.fun_ ht4, trivial⟩, trivial, trivial, trivial, rfl⟩, ⟨⟨trivial, trivial, ⟨halterref19_With.fun_ ht4, trivial⟩, trivial, trivial, trivial, trivial, rfl⟩, trivial⟩, ?_⟩
      refine ⟨trivial, ?_⟩
      obtain rfl := Option.some.inj h
      exact ⟨⟨trivial, trivial, trivial⟩, ⟨trivial, trivial⟩, rfl, rfl⟩
/-! (*halter/file.Table).Move -/
def file_Table_Move_v1.f (a0 : Int) (a1 : Int) (a2 : Nat) (a3 : Nat) (a4 : (List (Int × (Int × (Int × (Bool × (Bool × (ByteArray × Int)))))))) : Option ((Option Int) × (List (Int × (Int × (Int × (Bool × (Bool × (ByteArray × Int)))))))) :=
  (file_Table_at_v1.f a0 a2 a3 a4).bind fun t1 =>
  match t1 with
  | .inl t2 =>
    some ((some t2), a4)
  | .inr t3 =>
    if a1 < (0 : Int) then
      some ((some (22 : Int)), a4)
    else
      if a1 > (1073741824 : Int) then
        some ((some (22 : Int)), a4)
      else
        if t3 < a3 then
          some (none, (List.set a4 t3 ((List.getD a4 t3 ((0 : Int), ((0 : Int), ((0 : Int), (false, (false, (ByteArray.empty, (0 : Int)))))))).1, ((List.getD a4 t3 ((0 : Int), ((0 : Int), ((0 : Int), (false, (false, (ByteArray.empty, (0 : Int)))))))).2.1, (a1, ((List.getD a4 t3 ((0 : Int), ((0 : Int), ((0 : Int), (false, (false, (ByteArray.empty, (0 : Int)))))))).2.2.2.1, ((List.getD a4 t3 ((0 : Int), ((0 : Int), ((0 : Int), (false, (false, (ByteArray.empty, (0 : Int)))))))).2.2.2.2.1, ((List.getD a4 t3 ((0 : Int), ((0 : Int), ((0 : Int), (false, (false, (ByteArray.empty, (0 : Int)))))))).2.2.2.2.2.1, (List.getD a4 t3 ((0 : Int), ((0 : Int), ((0 : Int), (false, (false, (ByteArray.empty, (0 : Int)))))))).2.2.2.2.2.2))))))))
        else none
def file_Table_Move_v1.R (r : (Option Int) × (List (Int × (Int × (Int × (Bool × (Bool × (ByteArray × Int)))))))) : Tm := .v (.one (.err r.1))
def file_Table_Move_v1.B (a0 : Int) (a1 : Int) (a2 : Nat) (a3 : Nat) (a4 : (List (Int × (Int × (Int × (Bool × (Bool × (ByteArray × Int)))))))) (r : (Option Int) × (List (Int × (Int × (Int × (Bool × (Bool × (ByteArray × Int)))))))) : List Box := [.ex false [.c (.os 1 0 0 7 a2 none)] 72, .ex false [.row a3 (.pair (.int .i64) (.pair (.int .i64) (.pair (.int .i64) (.pair .bool (.pair .bool (.pair .str (.int .i64))))))) r.2] 30]
theorem file_Table_Move_v1.fun_ {a0 : Int} {a1 : Int} {a2 : Nat} {a3 : Nat} {a4 : (List (Int × (Int × (Int × (Bool × (Bool × (ByteArray × Int)))))))} {r : (Option Int) × (List (Int × (Int × (Int × (Bool × (Bool × (ByteArray × Int)))))))} (h : file_Table_Move_v1.f a0 a1 a2 a3 a4 = some r) : Fun cfg 17 [.one (.ptr 0 ⟨0, 0, 0, 0⟩), .one (.sc (.int .i64 a0)), .one (.sc (.int .i64 a1))] [.ex false [.c (.os 1 0 0 7 a2 none)] 72, .ex false [.row a3 (.pair (.int .i64) (.pair (.int .i64) (.pair (.int .i64) (.pair .bool (.pair .bool (.pair .str (.int .i64))))))) a4] 30] (file_Table_Move_v1.R r) (file_Table_Move_v1.B a0 a1 a2 a3 a4 r) := by
  unfold file_Table_Move_v1.f at h
  refine fun_of_run cfg_ok (f := 17) (fn := Tryd.f17) Tryd.func17 rfl (by kernel_rfl) (rs := [.tmp 6]) rfl (nt := 31) rfl (l := fin) (k := (.alt (.callR true [] [0, 1] (Int) (fun t2 => (file_Table_at_v1.R (.inl t2))) (fun t2 => (file_Table_at_v1.B a0 a2 a3 a4 (.inl t2))) (fun t2 => (.one true (.adj [] (.adj [] (.adj [] .nil)))))) (.callR true [] [0, 1] (Nat) (fun t3 => (file_Table_at_v1.R (.inr t3))) (fun t3 => (file_Table_at_v1.B a0 a2 a3 a4 (.inr t3))) (fun t3 => (.one false (.br (.one true (.one true (.one true (.adj [] (.adj [] (.adj [] .nil)))))) (.one false (.one false (.br (.adj [] (.adj [] (.adj [] .nil))) (.adj [] (.adj [] (.adj [] (.adj [] (.adj [] .nil)))))))))))))) (to_goal (q := ((∃ t2 : Int, (Fun cfg 25 [.one (.ptr 0 ⟨0, 0, 0, 0⟩), .one (.sc (.int .i64 a0))] [.ex false [.c (.os 1 0 0 7 a2 none)] 72, .ex false [.row a3 (.pair (.int .i64) (.pair (.int .i64) (.pair (.int .i64) (.pair .bool (.pair .bool (.pair .str (.int .i64))))))) a4] 30] (file_Table_at_v1.R (.inl t2)) (file_Table_at_v1.B a0 a2 a3 a4 (.inl t2)) ∧ True) ∧ (True) ∧ (true = true ∧ (True ∧ (True ∧ ((True) ∧ (True) ∧ (.v (.one (.err (some t2))) : Tm) = file_Table_Move_v1.R r ∧ ([.ex false [.c (.os 1 0 0 7 a2 none)] 72, .ex false [.row a3 (.pair (.int .i64) (.pair (.int .i64) (.pair (.int .i64) (.pair .bool (.pair .bool (.pair .str (.int .i64))))))) a4] 30] : List Box) = file_Table_Move_v1.B a0 a1 a2 a3 a4 r))))) ∨ (∃ t3 : Nat, (Fun cfg 25 [.one (.ptr 0 ⟨0, 0, 0, 0⟩), .one (.sc (.int .i64 a0))] [.ex false [.c (.os 1 0 0 7 a2 none)] 72, .ex false [.row a3 (.pair (.int .i64) (.pair (.int .i64) (.pair (.int .i64) (.pair .bool (.pair .bool (.pair .str (.int .i64))))))) a4] 30] (file_Table_at_v1.R (.inr t3)) (file_Table_at_v1.B a0 a2 a3 a4 (.inr t3)) ∧ True) ∧ (True) ∧ (false = false ∧ (True) ∧ (((decide (a1 < (0 : Int))) = false → ((decide (a1 < (0 : Int))) = false ∧ (True) ∧ ((decide (a1 < (0 : Int))) = false ∧ (((decide (a1 > (1073741824 : Int))) = true → (True ∧ (True ∧ ((True) ∧ (True) ∧ (.v (.one (.err (some (22 : Int)))) : Tm) = file_Table_Move_v1.R r ∧ ([.ex false [.c (.os 1 0 0 7 a2 none)] 72, .ex false [.row a3 (.pair (.int .i64) (.pair (.int .i64) (.pair (.int .i64) (.pair .bool (.pair .bool (.pair .str (.int .i64))))))) a4] 30] : List Box) = file_Table_Move_v1.B a0 a1 a2 a3 a4 r)))) ∧ ((decide (a1 > (1073741824 : Int))) = false → (True ∧ (True ∧ (t3 < a3) ∧ (True ∧ (True ∧ ((True) ∧ (True) ∧ (.v (.one (.err none)) : Tm) = file_Table_Move_v1.R r ∧ ([.ex false [.c (.os 1 0 0 7 a2 none)] 72, .ex false [.row a3 (.pair (.int .i64) (.pair (.int .i64) (.pair (.int .i64) (.pair .bool (.pair .bool (.pair .str (.int .i64))))))) (List.set a4 t3 ((List.getD a4 t3 ((0 : Int), ((0 : Int), ((0 : Int), (false, (false, (ByteArray.empty, (0 : Int)))))))).1, ((List.getD a4 t3 ((0 : Int), ((0 : Int), ((0 : Int), (false, (false, (ByteArray.empty, (0 : Int)))))))).2.1, (a1, ((List.getD a4 t3 ((0 : Int), ((0 : Int), ((0 : Int), (false, (false, (ByteArray.empty, (0 : Int)))))))).2.2.2.1, ((List.getD a4 t3 ((0 : Int), ((0 : Int), ((0 : Int), (false, (false, (ByteArray.empty, (0 : Int)))))))).2.2.2.2.1, ((List.getD a4 t3 ((0 : Int), ((0 : Int), ((0 : Int), (false, (false, (ByteArray.empty, (0 : Int)))))))).2.2.2.2.2.1, (List.getD a4 t3 ((0 : Int), ((0 : Int), ((0 : Int), (false, (false, (ByteArray.empty, (0 : Int)))))))).2.2.2.2.2.2)))))))] 30] : List Box) = file_Table_Move_v1.B a0 a1 a2 a3 a4 r)))))))))) ∧ ((decide (a1 < (0 : Int))) = true → ((decide (a1 < (0 : Int))) = true ∧ ((decide (a1 < (0 : Int))) = true ∧ (true = true ∧ (True ∧ (True ∧ ((True) ∧ (True) ∧ (.v (.one (.err (some (22 : Int)))) : Tm) = file_Table_Move_v1.R r ∧ ([.ex false [.c (.os 1 0 0 7 a2 none)] 72, .ex false [.row a3 (.pair (.int .i64) (.pair (.int .i64) (.pair (.int .i64) (.pair .bool (.pair .bool (.pair .str (.int .i64))))))) a4] 30] : List Box) = file_Table_Move_v1.B a0 a1 a2 a3 a4 r)))))))))))) (by kernel_rfl) ?_)
  obtain ⟨t1, ht1, h⟩ := of_bind h
  rcases t1 with t2 | t3
  · dsimp only at h
    left
    refine ⟨t2, ⟨file_Table_at_v1.fun_ ht1, trivial⟩, ?_⟩
    refine ⟨trivial, ?_⟩
    refine ⟨rfl, ?_⟩
    refine ⟨trivial, ?_⟩
    refine ⟨trivial, ?_⟩
    obtain rfl := Option.some.inj h
    exact ⟨trivial, trivial, rfl, rfl⟩
  · dsimp only at h
    right
    refine ⟨t3, ⟨file_Table_at_v1.fun_ ht1, trivial⟩, ?_⟩
    refine ⟨trivial, ?_⟩
    refine ⟨rfl, ?_⟩
    refine ⟨trivial, ?_⟩
    refine ⟨fun b4 => ?_, fun b4 => ?_⟩
    · rw [if_neg (of_decide_eq_false b4)] at h
      refine ⟨b4, ?_⟩
      refine ⟨trivial, ?_⟩
      refine ⟨b4, ?_⟩
      refine ⟨fun b5 => ?_, fun b5 => ?_⟩
      · rw [if_pos (of_decide_eq_true b5)] at h
        refine ⟨trivial, ?_⟩
        refine ⟨trivial, ?_⟩
        obtain rfl := Option.some.inj h
        exact ⟨trivial, trivial, rfl, rfl⟩
      · rw [if_neg (of_decide_eq_false b5)] at h
        refine ⟨trivial, ?_⟩
        refine ⟨trivial, ?_⟩
        obtain ⟨g6, h⟩ := of_guard h
        refine ⟨g6, ?_⟩
        refine ⟨trivial, ?_⟩
        refine ⟨trivial, ?_⟩
        obtain rfl := Option.some.inj h
        exact ⟨trivial, trivial, rfl, rfl⟩
    · rw [if_pos (of_decide_eq_true b4)] at h
      refine ⟨b4, ?_⟩
      refine ⟨b4, ?_⟩
      refine ⟨rfl, ?_⟩
      refine ⟨trivial, ?_⟩
      refine ⟨trivial, ?_⟩
      obtain rfl := Option.some.inj h
      exact ⟨trivial, trivial, rfl, rfl⟩
/-! halter/halterref19.Move -/
def halterref19_Move.f (a0 : Int) (a1 : (List (Int × (Int × (Int × (Int × (Bool × (Bool × (ByteArray × Int))))))))) (a2 : Int) (a3 : Int) : Option (Int × (List (Int × (Int × (Int × (Int × (Bool × (Bool × (ByteArray × Int)))))))) × Int) :=
  (halterref19_Get.f a0 a1 a2).bind fun t1 =>
  if ¬ t1.2.2.2.2.2.2.2 = (0 : Int) then
    some (a0, a1, t1.2.2.2.2.2.2.2)
  else
    if a3 < (0 : Int) then
      some (a0, a1, (22 : Int))
    else
      if a3 > (1073741824 : Int) then
        some (a0, a1, (22 : Int))
      else
        (halterref19_With.f a0 a1 a2 t1.1 t1.2.1 a3 t1.2.2.2.1 t1.2.2.2.2.1 t1.2.2.2.2.2.1 t1.2.2.2.2.2.2.1).bind fun t5 =>
        some (t5.1, t5.2, (0 : Int))
def halterref19_Move.R (r : Int × (List (Int × (Int × (Int × (Int × (Bool × (Bool × (ByteArray × Int)))))))) × Int) : Tm := .tup [.agg [.c (.sc (.int .i64 r.1)), .c (.fs (.pair (.int .i64) (.pair (.int .i64) (.pair (.int .i64) (.pair (.int .i64) (.pair .bool (.pair .bool (.pair .str (.int .i64)))))))) r.2.1 false)], .one (.sc (.int .i64 r.2.2))]
theorem halterref19_Move.fun_ {a0 : Int} {a1 : (List (Int × (Int × (Int × (Int × (Bool × (Bool × (ByteArray × Int))))))))} {a2 : Int} {a3 : Int} {r : Int × (List (Int × (Int × (Int × (Int × (Bool × (Bool × (ByteArray × Int)))))))) × Int} (h : halterref19_Move.f a0 a1 a2 a3 = some r) : Fun cfg 19 [.agg [.c (.sc (.int .i64 a0)), .c (.fs (.pair (.int .i64) (.pair (.int .i64) (.pair (.int .i64) (.pair (.int .i64) (.pair .bool (.pair .bool (.pair .str (.int .i64)))))))) a1 false)], .one (.sc (.int .i64 a2)), .one (.sc (.int .i64 a3))] [] (halterref19_Move.R r) [] := by
  unfold halterref19_Move.f at h
  refine fun_of_run cfg_ok (f := 19) (fn := Tryd.f19) Tryd.func19 rfl (by kernel_rfl) (rs := [.cell 6 53, .tmp 7]) rfl (nt := 33) rfl (l := fin) (k := (.call true [] (TY2) (fun t1 => halterref19_Get.R t1) (fun t1 => (.br (.adj [] (.adj [] (.adj [.drop 0] .nil))) (.br (.one true (.one true (.one true (.adj [] (.adj [] (.adj [.drop 0] .nil)))))) (.one false (.one false (.br (.adj [] (.adj [] (.adj [.drop 0] .nil))) (.call true [] (Int × (List (Int × (Int × (Int × (Int × (Bool × (Bool × (ByteArray × Int))))))))) (fun t5 => halterref19_With.R t5) (fun t5 => (.adj [] (.adj [.drop 0] .nil)))))))))))) (to_goal (q := (True) ∧ (∃ t1 : TY2, (Fun cfg 21 [.agg [.c (.sc (.int .i64 a0)), .c (.fs (.pair (.int .i64) (.pair (.int .i64) (.pair (.int .i64) (.pair (.int .i64) (.pair .bool (.pair .bool (.pair .str (.int .i64)))))))) a1 false)], .one (.sc (.int .i64 a2))] [] (halterref19_Get.R t1) [] ∧ True) ∧ (True) ∧ (True) ∧ ((((z7 t1) != (0 : Int)) = true → (True ∧ (True) ∧ (True) ∧ (True ∧ (((True) ∧ True) ∧ ((True) ∧ True) ∧ (.tup [.agg [.c (.sc (.int .i64 a0)), .c (.fs (.pair (.int .i64) (.pair (.int .i64) (.pair (.int .i64) (.pair (.int .i64) (.pair .bool (.pair .bool (.pair .str (.int .i64)))))))) a1 false)], .one (.sc (.int .i64 (z7 t1)))] : Tm) = halterref19_Move.R r ∧ ([] : List Box) = [])))) ∧ (((z7 t1) != (0 : Int)) = false → (True) ∧ (((decide (a3 < (0 : Int))) = false → ((decide (a3 < (0 : Int))) = false ∧ (True) ∧ ((decide (a3 < (0 : Int))) = false ∧ (((decide (a3 > (1073741824 : Int))) = true → (True ∧ (True) ∧ (True) ∧ (True ∧ (((True) ∧ True) ∧ ((True) ∧ True) ∧ (.tup [.agg [.c (.sc (.int .i64 a0)), .c (.fs (.pair (.int .i64) (.pair (.int .i64) (.pair (.int .i64) (.pair (.int .i64) (.pair .bool (.pair .bool (.pair .str (.int .i64)))))))) a1 false)], .one (.sc (.int .i64 (22 : Int)))] : Tm) = halterref19_Move.R r ∧ ([] : List Box) = [])))) ∧ ((decide (a3 > (1073741824 : Int))) = false → (True) ∧ (True) ∧ (True) ∧ (∃ t5 : Int × (List (Int × (Int × (Int × (Int × (Bool × (Bool × (ByteArray × Int)))))))), (Fun cfg 26 [.agg [.c (.sc (.int .i64 a0)), .c (.fs (.pair (.int .i64) (.pair (.int .i64) (.pair (.int .i64) (.pair (.int .i64) (.pair .bool (.pair .bool (.pair .str (.int .i64)))))))) a1 false)], .one (.sc (.int .i64 a2)), .agg [.c (.sc (.int .i64 t1.1)), .c (.sc (.int .i64 t1.2.1)), .c (.sc (.int .i64 a3)), .c (.sc (.bool (p3 t1))), .c (.sc (.bool (p4 t1))), .c (.sc (.string (p5 t1))), .c (.sc (.int .i64 (p6 t1)))]] [] (halterref19_With.R t5) [] ∧ True) ∧ (True) ∧ (True ∧ (((True) ∧ True) ∧ ((True) ∧ True) ∧ (.tup [.agg [.c (.sc (.int .i64 t5.1)), .c (.fs (.pair (.int .i64) (.pair (.int .i64) (.pair (.int .i64) (.pair (.int .i64) (.pair .bool (.pair .bool (.pair .str (.int .i64)))))))) t5.2 false)], .one (.sc (.int .i64 (0 : Int)))] : Tm) = halterref19_Move.R r ∧ ([] : List Box) = [])))))))) ∧ ((decide (a3 < (0 : Int))) = true → ((decide (a3 < (0 : Int))) = true ∧ ((decide (a3 < (0 : Int))) = true ∧ (true = true ∧ (True ∧ (True) ∧ (True) ∧ (True ∧ (((True) ∧ True) ∧ ((True) ∧ True) ∧ (.tup [.agg [.c (.sc (.int .i64 a0)), .c (.fs (.pair (.int .i64) (.pair (.int .i64) (.pair (.int .i64) (.pair (.int .i64) (.pair .bool (.pair .bool (.pair .str (.int .i64)))))))) a1 false)], .one (.sc (.int .i64 (22 : Int)))] : Tm) = halterref19_Move.R r ∧ ([] : List Box) = [])))))))))))) (by kernel_rfl) ?_)
  refine ⟨trivial, ?_⟩
  obtain ⟨t1, ht1, h⟩ := of_bind h
  refine ⟨t1, ⟨halterref19_Get.fun_ ht1, trivial⟩, ?_⟩
  refine ⟨trivial, ?_⟩
  refine ⟨trivial, ?_⟩
  refine ⟨fun b2 => ?_, fun b2 => ?_⟩
  · rw [if_pos (bne_t b2)] at h
    refine ⟨trivial, ?_⟩
    refine ⟨trivial, ?_⟩
    refine ⟨trivial, ?_⟩
    refine ⟨trivial, ?_⟩
    obtain rfl := Option.some.inj h
    exact ⟨⟨trivial, trivial⟩, ⟨trivial, trivial⟩, rfl, rfl⟩
  · rw [if_neg (not_not_intro (bne_f b2))] at h
    refine ⟨trivial, ?_⟩
    refine ⟨fun b3 => ?_, fun b3 => ?_⟩
    · rw [if_neg (of_decide_eq_false b3)] at h
      refine ⟨b3, ?_⟩
      refine ⟨trivial, ?_⟩
      refine ⟨b3, ?_⟩
      refine ⟨fun b4 => ?_, fun b4 => ?_⟩
      · rw [if_pos (of_decide_eq_true b4)] at h
        refine ⟨trivial, ?_⟩
        refine ⟨trivial, ?_⟩
        refine ⟨trivial, ?_⟩
        refine ⟨trivial, ?_⟩
        obtain rfl := Option.some.inj h
        exact ⟨⟨trivial, trivial⟩, ⟨trivial, trivial⟩, rfl, rfl⟩
      · rw [if_neg (of_decide_eq_false b4)] at h
        refine ⟨trivial, ?_⟩
        refine ⟨trivial, ?_⟩
        refine ⟨trivial, ?_⟩
        obtain ⟨t5, ht5, h⟩ := of_bind h
        refine ⟨t5, ⟨halterref19_With.fun_ ht5, trivial⟩, ?_⟩
        refine ⟨trivial, ?_⟩
        refine ⟨trivial, ?_⟩
        obtain rfl := Option.some.inj h
        exact ⟨⟨trivial, trivial⟩, ⟨trivial, trivial⟩, rfl, rfl⟩
    · rw [if_pos (of_decide_eq_true b3)] at h
      refine ⟨b3, ?_⟩
      refine ⟨b3, ?_⟩
      refine ⟨rfl, ?_⟩
      refine ⟨trivial, ?_⟩
      refine ⟨trivial, ?_⟩
      refine ⟨trivial, ?_⟩
      refine ⟨trivial, ?_⟩
      obtain rfl := Option.some.inj h
      exact ⟨⟨trivial, trivial⟩, ⟨trivial, trivial⟩, rfl, rfl⟩
/-! halter/halterref19.May -/
def halterref19_May.f (a0 : Int) (a1 : Int) (a2 : Int) (a3 : Bool) (a4 : Bool) (a5 : ByteArray) (a6 : Int) : Option Bool :=
  if a0 ≥ (0 : Int) then
    if a0 ≤ (3 : Int) then
      if a1 ≥ (0 : Int) then
        if a1 ≤ (1073741824 : Int) then
          if a2 ≥ (0 : Int) then
            if a2 ≤ (1073741824 : Int) then
              some (decide (((ByteArray.size a5 : Nat) : Int) ≤ (256 : Int)))
            else
              some false
          else
            some false
        else
          some false
      else
        some false
    else
      some false
  else
    some false
def halterref19_May.R (r : Bool) : Tm := .v (.one (.sc (.bool r)))
end Go.Proofs.YticdckalmebhmaaDoorGFileRuns
