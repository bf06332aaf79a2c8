/- Printed by gen.py: what functions of the program compute, in plain Lean, and that they do. -/
import Derived.Test.YthoilcjnnifenaaDoorE15
import Derived.Test.YthoilcjnnifenaaDoorN
set_option linter.unusedVariables false
set_option maxRecDepth 100000
set_option maxHeartbeats 4000000
namespace Go.Proofs.YthoilcjnnifenaaDoorGFramesRun
open Go Go.Proofs.YthoilcjnnifenaaDoorE
def tiL : List (Nat × TI) := [
  (3, ⟨1, 8, false, .int .i64, [.c (.sc (.int .i64 (0 : Int)))], some (.int .i64)⟩),
  (4, ⟨1, 1, false, .bool, [.c (.sc (.bool false))], some .bool⟩),
  (22, ⟨1, 24, false, (.slice 42), [.c (.sc (.slice none 0 0))], some (.sl (.pair (.int .i64) (.int .i64)))⟩),
  (23, ⟨1, 8, false, (.ptr 58), [.c (.sc (.pointer none))], none⟩),
  (25, ⟨1, 16, false, .iface, [.c (.err none)], none⟩),
  (34, ⟨1, 24, false, (.slice 3), [.c (.sc (.slice none 0 0))], some (.sl (.int .i64))⟩),
  (40, ⟨2, 32, true, (.struct [(0, 3), (1, 34)]), [.c (.sc (.int .i64 (0 : Int))), .c (.sc (.slice none 0 0))], some (.pair (.int .i64) (.sl (.int .i64)))⟩),
  (42, ⟨2, 16, true, (.struct [(0, 3), (1, 3)]), [.c (.sc (.int .i64 (0 : Int))), .c (.sc (.int .i64 (0 : Int)))], some (.pair (.int .i64) (.int .i64))⟩),
  (43, ⟨1, 8, false, .int .u64, [.c (.sc (.int .u64 (0 : Int)))], some (.int .u64)⟩),
  (55, ⟨1, 8, false, .int .i64, [.c (.sc (.int .i64 (0 : Int)))], some (.int .i64)⟩),
  (58, ⟨1, 24, true, (.struct [(0, 34)]), [.c (.sc (.slice none 0 0))], some (.sl (.int .i64))⟩)]
def tabs : List (Nat × IntKind × List Int) := []
noncomputable def cfg : Cfg := ⟨Tryd.prog, 55, [(⟨0, 0, none⟩, .iface 75 (.agg #[.pointer (some ⟨1, 25, none⟩)]))] ++ tabs.flatMap tabG, tiL, [], tabs⟩
theorem cfg_ok : COk cfg := by
  refine ⟨fun p hp => ?_, by kernel_rfl, fun p hp => ?_, fun t ht => ?_, fun x hx y hy => List.mem_append_right _ (List.mem_flatMap.2 ⟨x, hx, hy⟩)⟩
  · simp only [cfg, tiL, List.mem_cons, List.not_mem_nil, or_false] at hp
    rcases hp with rfl | rfl | rfl | rfl | rfl | rfl | rfl | rfl | rfl | rfl | rfl <;> exact ⟨by kernel_rfl, by kernel_rfl, by kernel_rfl, by kernel_rfl, by kernel_rfl, by kernel_rfl⟩
  · simp only [cfg, tiL, List.mem_cons, List.not_mem_nil, or_false] at hp
    rcases hp with rfl | rfl | rfl | rfl | rfl | rfl | rfl | rfl | rfl | rfl | rfl <;> intro fs hfs bl hbl
    · cases hfs
    · cases hfs
    · cases hfs
    · cases hfs
    · cases hfs
    · cases hfs
    · cases hfs
      have e : fieldsZ cfg.L 0 [(0, 3), (1, 34)] = some [[.c (.sc (.int .i64 (0 : Int)))], [.c (.sc (.slice none 0 0))]] := by kernel_rfl
      rw [e] at hbl
      cases hbl
      exact (by kernel_rfl : encPs (List.flatten [[.c (.sc (.int .i64 (0 : Int)))], [.c (.sc (.slice none 0 0))]]) = encPs [.c (.sc (.int .i64 (0 : Int))), .c (.sc (.slice none 0 0))])
    · cases hfs
      have e : fieldsZ cfg.L 0 [(0, 3), (1, 3)] = some [[.c (.sc (.int .i64 (0 : Int)))], [.c (.sc (.int .i64 (0 : Int)))]] := by kernel_rfl
      rw [e] at hbl
      cases hbl
      exact (by kernel_rfl : encPs (List.flatten [[.c (.sc (.int .i64 (0 : Int)))], [.c (.sc (.int .i64 (0 : Int)))]]) = encPs [.c (.sc (.int .i64 (0 : Int))), .c (.sc (.int .i64 (0 : Int)))])
    · cases hfs
    · cases hfs
    · cases hfs
      have e : fieldsZ cfg.L 0 [(0, 34)] = some [[.c (.sc (.slice none 0 0))]] := by kernel_rfl
      rw [e] at hbl
      cases hbl
      exact (by kernel_rfl : encPs (List.flatten [[.c (.sc (.slice none 0 0))]]) = encPs [.c (.sc (.slice none 0 0))])
  · cases ht
def fin : Scr → List Adj
  | .adj l _ => l
  | _ => []
/-! the error's number -/
def num.f (a0 : Option Int) : Option Int := some (a0.getD 0)
def num.R (r : Int) : Tm := .v (.one (.sc (.int .i64 r)))
theorem num.fun_ {a0 : Option Int} {r : Int} (h : num.f a0 = some r) : Fun cfg 8 [.one (.err a0)] [] (num.R r) [] := by
  refine Fun.of_below (f := 8) (fn := Tryd.f8) Tryd.func8 rfl (by kernel_rfl) (r := .int .i64 r) (fun X => ⟨⟨rfl, rfl⟩, rfl⟩) fun X vs hE hvs hG => ?_
  obtain ⟨v, us, rfl, hv, rfl⟩ := hvs
  have hv : v = errV X.E a0 := hv.1
  have he : errV cfg.E a0 = YthoilcjnnifenaaDoorN.errW a0 := by cases a0 <;> rfl
  rw [hv, hE, he]
  exact YthoilcjnnifenaaDoorN.num.calls a0 r X.w (hG _ (List.mem_append_left _ (List.mem_cons_self ..))) h
/-! (*halter/frames.Frames).Alloc -/
def frames_Frames_Alloc.f : Option (Int × (Option Int)) :=
  some ((0 : Int), (some (22 : Int)))
def frames_Frames_Alloc.R (r : Int × (Option Int)) : Tm := .tup [.one (.sc (.int .i64 r.1)), .one (.err r.2)]
def frames_Frames_Alloc.B (r : Int × (Option Int)) : List Box := []
theorem frames_Frames_Alloc.fun_ {r : Int × (Option Int)} (h : frames_Frames_Alloc.f = some r) : Fun cfg 6 [.one (.sc (.pointer none))] [] (frames_Frames_Alloc.R r) (frames_Frames_Alloc.B r) := by
  unfold frames_Frames_Alloc.f at h
  refine fun_of_run cfg_ok (f := 6) (fn := Tryd.f6) Tryd.func6 rfl (by kernel_rfl) (rs := [.tmp 2, .tmp 3]) rfl (nt := 23) rfl (l := fin) (k := (.one true (.adj [] (.adj [] (.adj [] .nil))))) (to_goal (q := (True) ∧ (true = true ∧ (True ∧ (True ∧ ((True) ∧ (True) ∧ (.tup [.one (.sc (.int .i64 (0 : Int))), .one (.err (some (22 : Int)))] : Tm) = frames_Frames_Alloc.R r ∧ ([] : List Box) = frames_Frames_Alloc.B r))))) (by kernel_rfl) ?_)
  refine ⟨trivial, ?_⟩
  refine ⟨rfl, ?_⟩
  refine ⟨trivial, ?_⟩
  refine ⟨trivial, ?_⟩
  obtain rfl := Option.some.inj h
  exact ⟨trivial, trivial, rfl, rfl⟩
/-! (*halter/frames.Frames).Refs -/
def frames_Frames_Refs.f (a0 : Int) : Option Int :=
  some (0 : Int)
def frames_Frames_Refs.R (r : Int) : Tm := .v (.one (.sc (.int .i64 r)))
def frames_Frames_Refs.B (a0 : Int) (r : Int) : List Box := []
theorem frames_Frames_Refs.fun_ {a0 : Int} {r : Int} (h : frames_Frames_Refs.f a0 = some r) : Fun cfg 10 [.one (.sc (.pointer none)), .one (.sc (.int .i64 a0))] [] (frames_Frames_Refs.R r) (frames_Frames_Refs.B a0 r) := by
  unfold frames_Frames_Refs.f at h
  refine fun_of_run cfg_ok (f := 10) (fn := Tryd.f10) Tryd.func10 rfl (by kernel_rfl) (rs := [.tmp 4]) rfl (nt := 27) rfl (l := fin) (k := (.one true (.one true (.one true (.one true (.one true (.one true (.one true (.one true (.one true (.one true (.one true (.one true (.adj [] (.adj [] (.adj [] .nil)))))))))))))))) (to_goal (q := (True) ∧ (true = true ∧ (true = true ∧ (true = true ∧ (true = true ∧ (true = true ∧ (true = true ∧ (true = true ∧ (true = true ∧ (true = true ∧ (true = true ∧ (true = true ∧ (true = true ∧ (True ∧ (True ∧ ((True) ∧ (True) ∧ (.v (.one (.sc (.int .i64 (0 : Int)))) : Tm) = frames_Frames_Refs.R r ∧ ([] : List Box) = frames_Frames_Refs.B a0 r)))))))))))))))) (by kernel_rfl) ?_)
  refine ⟨trivial, ?_⟩
  refine ⟨rfl, ?_⟩
  refine ⟨rfl, ?_⟩
  refine ⟨rfl, ?_⟩
  refine ⟨rfl, ?_⟩
  refine ⟨rfl, ?_⟩
  refine ⟨rfl, ?_⟩
  refine ⟨rfl, ?_⟩
  refine ⟨rfl, ?_⟩
  refine ⟨rfl, ?_⟩
  refine ⟨rfl, ?_⟩
  refine ⟨rfl, ?_⟩
  refine ⟨rfl, ?_⟩
  refine ⟨trivial, ?_⟩
  refine ⟨trivial, ?_⟩
  obtain rfl := Option.some.inj h
  exact ⟨trivial, trivial, rfl, rfl⟩
/-! (*halter/frames.Frames).taken -/
def frames_Frames_taken.f (a0 : Int) : Option Bool :=
  (frames_Frames_Refs.f a0).bind fun t1 =>
  some (decide (t1 > (0 : Int)))
def frames_Frames_taken.R (r : Bool) : Tm := .v (.one (.sc (.bool r)))
def frames_Frames_taken.B (a0 : Int) (r : Bool) : List Box := []
theorem frames_Frames_taken.fun_ {a0 : Int} {r : Bool} (h : frames_Frames_taken.f a0 = some r) : Fun cfg 22 [.one (.sc (.pointer none)), .one (.sc (.int .i64 a0))] [] (frames_Frames_taken.R r) (frames_Frames_taken.B a0 r) := by
  unfold frames_Frames_taken.f at h
  refine fun_of_run cfg_ok (f := 22) (fn := Tryd.f22) Tryd.func22 rfl (by kernel_rfl) (rs := [.tmp 4]) rfl (nt := 9) rfl (l := fin) (k := (.callR true [] [] (Int) (fun t1 => (frames_Frames_Refs.R t1)) (fun t1 => (frames_Frames_Refs.B a0 t1)) (fun t1 => (.adj [] (.adj [] .nil))))) (to_goal (q := (∃ t1 : Int, (Fun cfg 10 [.one (.sc (.pointer none)), .one (.sc (.int .i64 a0))] [] (frames_Frames_Refs.R t1) (frames_Frames_Refs.B a0 t1) ∧ True) ∧ (True) ∧ (True ∧ ((True) ∧ (True) ∧ (.v (.one (.sc (.bool (decide (t1 > (0 : Int)))))) : Tm) = frames_Frames_taken.R r ∧ ([] : List Box) = frames_Frames_taken.B a0 r)))) (by kernel_rfl) ?_)
  obtain ⟨t1, ht1, h⟩ := of_bind h
  refine ⟨t1, ⟨frames_Frames_Refs.fun_ ht1, trivial⟩, ?_⟩
  refine ⟨trivial, ?_⟩
  refine ⟨trivial, ?_⟩
  obtain rfl := Option.some.inj h
  exact ⟨trivial, trivial, rfl, rfl⟩
/-! (*halter/frames.Frames).Unref -/
def frames_Frames_Unref.f (a0 : Int) : Option (Bool × (Option Int)) :=
  (frames_Frames_taken.f a0).bind fun t1 =>
  if ¬ (t1 = true) then
    some (false, (some (22 : Int)))
  else
    none
def frames_Frames_Unref.R (r : Bool × (Option Int)) : Tm := .tup [.one (.sc (.bool r.1)), .one (.err r.2)]
def frames_Frames_Unref.B (a0 : Int) (r : Bool × (Option Int)) : List Box := []
theorem frames_Frames_Unref.fun_ {a0 : Int} {r : Bool × (Option Int)} (h : frames_Frames_Unref.f a0 = some r) : Fun cfg 7 [.one (.sc (.pointer none)), .one (.sc (.int .i64 a0))] [] (frames_Frames_Unref.R r) (frames_Frames_Unref.B a0 r) := by
  unfold frames_Frames_Unref.f at h
  refine fun_of_run cfg_ok (f := 7) (fn := Tryd.f7) Tryd.func7 rfl (by kernel_rfl) (rs := [.tmp 4, .tmp 5]) rfl (nt := 28) rfl (l := fin) (k := (.callR true [] [] (Bool) (fun t1 => (frames_Frames_taken.R t1)) (fun t1 => (frames_Frames_taken.B a0 t1)) (fun t1 => (.br (.adj [] (.adj [] (.adj [] .nil))) .nil)))) (to_goal (q := (∃ t1 : Bool, (Fun cfg 22 [.one (.sc (.pointer none)), .one (.sc (.int .i64 a0))] [] (frames_Frames_taken.R t1) (frames_Frames_taken.B a0 t1) ∧ True) ∧ (((!t1) = true → (True ∧ (True ∧ ((True) ∧ (True) ∧ (.tup [.one (.sc (.bool false)), .one (.err (some (22 : Int)))] : Tm) = frames_Frames_Unref.R r ∧ ([] : List Box) = frames_Frames_Unref.B a0 r)))) ∧ ((!t1) = false → False)))) (by kernel_rfl) ?_)
  obtain ⟨t1, ht1, h⟩ := of_bind h
  refine ⟨t1, ⟨frames_Frames_taken.fun_ ht1, trivial⟩, ?_⟩
  refine ⟨fun b2 => ?_, fun b2 => ?_⟩
  · rw [if_pos (ff (not_t b2))] at h
    refine ⟨trivial, ?_⟩
    refine ⟨trivial, ?_⟩
    obtain rfl := Option.some.inj h
    exact ⟨trivial, trivial, rfl, rfl⟩
  · rw [if_neg (not_not_intro (not_f b2))] at h
    cases h
/-! (*halter/frames.Frames).Ref -/
def frames_Frames_Ref.f (a0 : Int) : Option (Option Int) :=
  (frames_Frames_taken.f a0).bind fun t1 =>
  if ¬ (t1 = true) then
    some (some (22 : Int))
  else
    none
def frames_Frames_Ref.R (r : (Option Int)) : Tm := .v (.one (.err r))
def frames_Frames_Ref.B (a0 : Int) (r : (Option Int)) : List Box := []
theorem frames_Frames_Ref.fun_ {a0 : Int} {r : (Option Int)} (h : frames_Frames_Ref.f a0 = some r) : Fun cfg 9 [.one (.sc (.pointer none)), .one (.sc (.int .i64 a0))] [] (frames_Frames_Ref.R r) (frames_Frames_Ref.B a0 r) := by
  unfold frames_Frames_Ref.f at h
  refine fun_of_run cfg_ok (f := 9) (fn := Tryd.f9) Tryd.func9 rfl (by kernel_rfl) (rs := [.tmp 4]) rfl (nt := 29) rfl (l := fin) (k := (.callR true [] [] (Bool) (fun t1 => (frames_Frames_taken.R t1)) (fun t1 => (frames_Frames_taken.B a0 t1)) (fun t1 => (.br (.one true (.one true (.one true (.one true (.one true (.one true (.one true (.one true (.one true (.adj [] (.adj [] (.adj [] .nil)))))))))))) (.one false .nil))))) (to_goal (q := (∃ t1 : Bool, (Fun cfg 22 [.one (.sc (.pointer none)), .one (.sc (.int .i64 a0))] [] (frames_Frames_taken.R t1) (frames_Frames_taken.B a0 t1) ∧ True) ∧ (((!t1) = false → ((!t1) = false ∧ False)) ∧ ((!t1) = true → ((!t1) = true ∧ ((!t1) = true ∧ ((!t1) = true ∧ ((!t1) = true ∧ ((!t1) = true ∧ ((!t1) = true ∧ ((!t1) = true ∧ ((!t1) = true ∧ (true = true ∧ (True ∧ (True ∧ ((True) ∧ (True) ∧ (.v (.one (.err (some (22 : Int)))) : Tm) = frames_Frames_Ref.R r ∧ ([] : List Box) = frames_Frames_Ref.B a0 r)))))))))))))))) (by kernel_rfl) ?_)
  obtain ⟨t1, ht1, h⟩ := of_bind h
  refine ⟨t1, ⟨frames_Frames_taken.fun_ ht1, trivial⟩, ?_⟩
  refine ⟨fun b2 => ?_, fun b2 => ?_⟩
  · rw [if_neg (not_not_intro (not_f b2))] at h
    refine ⟨b2, ?_⟩
    cases h
  · rw [if_pos (ff (not_t b2))] at h
    refine ⟨b2, ?_⟩
    refine ⟨b2, ?_⟩
    refine ⟨b2, ?_⟩
    refine ⟨b2, ?_⟩
    refine ⟨b2, ?_⟩
    refine ⟨b2, ?_⟩
    refine ⟨b2, ?_⟩
    refine ⟨b2, ?_⟩
    refine ⟨rfl, ?_⟩
    refine ⟨trivial, ?_⟩
    refine ⟨trivial, ?_⟩
    obtain rfl := Option.some.inj h
    exact ⟨trivial, trivial, rfl, rfl⟩
/-! (*halter/frames.Frames).Free -/
def frames_Frames_Free.f : Option Int :=
  some (0 : Int)
def frames_Frames_Free.R (r : Int) : Tm := .v (.one (.sc (.int .i64 r)))
def frames_Frames_Free.B (r : Int) : List Box := []
theorem frames_Frames_Free.fun_ {r : Int} (h : frames_Frames_Free.f = some r) : Fun cfg 11 [.one (.sc (.pointer none))] [] (frames_Frames_Free.R r) (frames_Frames_Free.B r) := by
  unfold frames_Frames_Free.f at h
  refine fun_of_run cfg_ok (f := 11) (fn := Tryd.f11) Tryd.func11 rfl (by kernel_rfl) (rs := [.tmp 2]) rfl (nt := 14) rfl (l := fin) (k := (.one true (.adj [] (.adj [] (.adj [] .nil))))) (to_goal (q := (True) ∧ (true = true ∧ (True ∧ (True ∧ ((True) ∧ (True) ∧ (.v (.one (.sc (.int .i64 (0 : Int)))) : Tm) = frames_Frames_Free.R r ∧ ([] : List Box) = frames_Frames_Free.B r))))) (by kernel_rfl) ?_)
  refine ⟨trivial, ?_⟩
  refine ⟨rfl, ?_⟩
  refine ⟨trivial, ?_⟩
  refine ⟨trivial, ?_⟩
  obtain rfl := Option.some.inj h
  exact ⟨trivial, trivial, rfl, rfl⟩
/-! (*halter/frames.Frames).Taken -/
def frames_Frames_Taken.f : Option (List Int) :=
  some ([] : List Int)
def frames_Frames_Taken.R (r : (List Int)) : Tm := .v (.one (.fs (.int .i64) r false))
def frames_Frames_Taken.B (r : (List Int)) : List Box := []
theorem frames_Frames_Taken.fun_ {r : (List Int)} (h : frames_Frames_Taken.f = some r) : Fun cfg 12 [.one (.sc (.pointer none))] [] (frames_Frames_Taken.R r) (frames_Frames_Taken.B r) := by
  unfold frames_Frames_Taken.f at h
  refine fun_of_run cfg_ok (f := 12) (fn := Tryd.f12) Tryd.func12 rfl (by kernel_rfl) (rs := [.tmp 2]) rfl (nt := 26) rfl (l := fin) (k := (.one true (.adj [] (.adj [] (.adj [.co 0 true [(.int .i64)]] .nil))))) (to_goal (q := (True) ∧ (true = true ∧ (True ∧ (True ∧ ((True) ∧ ((True) ∧ True) ∧ (.v (.one (.fs (.int .i64) ([] : List Int) false)) : Tm) = frames_Frames_Taken.R r ∧ ([] : List Box) = frames_Frames_Taken.B r))))) (by kernel_rfl) ?_)
  refine ⟨trivial, ?_⟩
  refine ⟨rfl, ?_⟩
  refine ⟨trivial, ?_⟩
  refine ⟨trivial, ?_⟩
  obtain rfl := Option.some.inj h
  exact ⟨trivial, ⟨trivial, trivial⟩, rfl, rfl⟩
/-! halter/frames.New -/
def frames_New.f (a0 : Int) : Option ((Int) ⊕ (Nat × Nat × (List Int))) :=
  if a0 < (1 : Int) then
    some (.inl (22 : Int))
  else
    if a0 > (1024 : Int) then
      some (.inl (22 : Int))
    else
      if 0 ≤ a0 ∧ a0 = a0 ∧ (8 : Int) * a0 ≤ 281474976710656 ∧ a0 ≤ 9223372036854775807 then
        some (.inr ((Int.toNat a0), (Int.toNat a0), (List.replicate (Int.toNat a0) (0 : Int))))
      else none
def frames_New.R : (Int) ⊕ (Nat × Nat × (List Int)) → Tm
  | .inl r => .tup [.one (.sc (.pointer none)), .one (.err (some r))]
  | .inr r => .tup [.one (.ptr 0 ⟨0, 0, 0, 0⟩), .one (.err none)]
def frames_New.B (a0 : Int) : (Int) ⊕ (Nat × Nat × (List Int)) → List Box
  | .inl r => []
  | .inr r => [.ex false [.c (.os 1 0 0 1 r.1 none)] 58, .ex false [.row r.2.1 (.int .i64) r.2.2] 3]
theorem frames_New.fun_ {a0 : Int} {r : (Int) ⊕ (Nat × Nat × (List Int))} (h : frames_New.f a0 = some r) : Fun cfg 13 [.one (.sc (.int .i64 a0))] [] (frames_New.R r) (frames_New.B a0 r) := by
  unfold frames_New.f at h
  refine fun_of_run cfg_ok (f := 13) (fn := Tryd.f13) Tryd.func13 rfl (by kernel_rfl) (rs := [.tmp 2, .tmp 3]) rfl (nt := 15) rfl (l := fin) (k := (.br (.one true (.one true (.one true (.adj [] (.adj [] (.adj [] .nil)))))) (.one false (.one false (.br (.adj [] (.adj [] (.adj [] .nil))) (.d .no (.adj [] (.adj [.sel [1, 0], .nocap] .nil)))))))) (to_goal (q := (True) ∧ (((decide (a0 < (1 : Int))) = false → ((decide (a0 < (1 : Int))) = false ∧ (True) ∧ ((decide (a0 < (1 : Int))) = false ∧ (((decide (a0 > (1024 : Int))) = true → (True ∧ (True ∧ ((True) ∧ (True) ∧ (.tup [.one (.sc (.pointer none)), .one (.err (some (22 : Int)))] : Tm) = frames_New.R r ∧ ([] : List Box) = frames_New.B a0 r)))) ∧ ((decide (a0 > (1024 : Int))) = false → (0 ≤ a0 ∧ a0 = a0 ∧ (8 : Int) * a0 ≤ 281474976710656 ∧ a0 ≤ 9223372036854775807) ∧ (True ∧ ((True) ∧ ((True) ∧ (True) ∧ True) ∧ (.tup [.one (.ptr 0 ⟨0, 0, 0, 0⟩), .one (.err none)] : Tm) = frames_New.R r ∧ ([.ex false [.c (.os 1 0 0 1 (Int.toNat a0) none)] 58, .ex false [.row (Int.toNat a0) (.int .i64) (List.replicate (Int.toNat a0) (0 : Int))] 3] : List Box) = frames_New.B a0 r))))))) ∧ ((decide (a0 < (1 : Int))) = true → ((decide (a0 < (1 : Int))) = true ∧ ((decide (a0 < (1 : Int))) = true ∧ (true = true ∧ (True ∧ (True ∧ ((True) ∧ (True) ∧ (.tup [.one (.sc (.pointer none)), .one (.err (some (22 : Int)))] : Tm) = frames_New.R r ∧ ([] : List Box) = frames_New.B a0 r))))))))) (by kernel_rfl) ?_)
  refine ⟨trivial, ?_⟩
  refine ⟨fun b1 => ?_, fun b1 => ?_⟩
  · rw [if_neg (of_decide_eq_false b1)] at h
    refine ⟨b1, ?_⟩
    refine ⟨trivial, ?_⟩
    refine ⟨b1, ?_⟩
    refine ⟨fun b2 => ?_, fun b2 => ?_⟩
    · rw [if_pos (of_decide_eq_true b2)] at h
      refine ⟨trivial, ?_⟩
      refine ⟨trivial, ?_⟩
      obtain rfl := Option.some.inj h
      exact ⟨trivial, trivial, rfl, rfl⟩
    · rw [if_neg (of_decide_eq_false b2)] at h
      obtain ⟨g3, h⟩ := of_guard h
      refine ⟨g3, ?_⟩
      refine ⟨trivial, ?_⟩
      obtain rfl := Option.some.inj h
      exact ⟨trivial, ⟨trivial, trivial, trivial⟩, rfl, rfl⟩
  · rw [if_pos (of_decide_eq_true b1)] at h
    refine ⟨b1, ?_⟩
    refine ⟨b1, ?_⟩
    refine ⟨rfl, ?_⟩
    refine ⟨trivial, ?_⟩
    refine ⟨trivial, ?_⟩
    obtain rfl := Option.some.inj h
    exact ⟨trivial, trivial, rfl, rfl⟩
/-! slices.Index[[]int,int] -/
def slices_Index_int_int.l0 (a0 : (List Int)) (a1 : Int) : Nat → Int → Option ((Unit) ⊕ (Int))
  | 0, _ => none
  | n + 1, x1 =>
    if x1 < (((List.length a0) : Nat) : Int) then
      if 0 ≤ x1 ∧ x1 < (((List.length a0) : Nat) : Int) then
        if a1 = (List.getD a0 (Int.toNat x1) (0 : Int)) then
          some (.inr x1)
        else
          slices_Index_int_int.l0 a0 a1 n (IntKind.wrap .i64 (x1 + (1 : Int)))
      else none
    else
      some (.inl ())
def slices_Index_int_int.l0_S (a0 : (List Int)) (a1 : Int) (x1 : Int) : St := ⟨[.v (.one (.fs (.int .i64) a0 false)), .v (.one (.sc (.int .i64 a1))), .any, .any, .any, .any, .any, .v (.one (.sc (.int .i64 (((List.length a0) : Nat) : Int)))), .v (.one (.sc (.int .i64 x1))), .any, .any, .any, .any, .any, .any, .any, .any, .any, .any], [], 0⟩
def slices_Index_int_int.l0_Q (a0 : (List Int)) (a1 : Int) : (Unit) ⊕ (Int) → Exit → St → Prop
  | .inl t => fun e s => e = (.exit 0) ∧ s = ⟨[.any, .any, .any, .any, .any, .any, .any, .any, .any, .any, .any, .any, .any, .any, .any, .any, .any, .any, .any], [], 0⟩
  | .inr t => fun e s => e = .ret ∧ s = ⟨[.any, .any, .any, .any, .v (.one (.sc (.int .i64 t))), .any, .any, .any, .any, .any, .any, .any, .any, .any, .any, .any, .any, .any, .any], [], 0⟩
theorem slices_Index_int_int.l0_ok (a0 : (List Int)) (a1 : Int) : ∀ (n : Nat) (x1 : Int) (r : (Unit) ⊕ (Int)), slices_Index_int_int.l0 a0 a1 n x1 = some r → TripN cfg (cpath (Tryd.f21.body.getD .skip) [1, 0, 1, 0, 0]) n (slices_Index_int_int.l0_S a0 a1 x1) (slices_Index_int_int.l0_Q a0 a1 r) := by
  intro n
  induction n with
  | zero => intro x1 r h; cases h
  | succ n ih =>
    intro x1 r h
    rw [slices_Index_int_int.l0] at h
    refine TripN.of_run cfg_ok (k := (.br (.br (.adj [] (.adj [.keep [4], .drop 0] .nil)) (.adj [] (.adj [] (.adj [.keep [0, 1, 7, 8], .drop 0] .nil)))) (.adj [.keep [], .drop 0] .nil))) (to_goal (q := (True) ∧ (((decide (x1 < (((List.length a0) : Nat) : Int))) = true → (0 ≤ x1 ∧ x1 < (((List.length a0) : Nat) : Int)) ∧ (True) ∧ (True) ∧ (((a1 == (List.getD a0 (Int.toNat x1) (0 : Int))) = true → (True ∧ (((True) ∧ (True) ∧ True) ∧ slices_Index_int_int.l0_Q a0 a1 r .ret ⟨[.any, .any, .any, .any, .v (.one (.sc (.int .i64 x1))), .any, .any, .any, .any, .any, .any, .any, .any, .any, .any, .any, .any, .any, .any], [], 0⟩))) ∧ ((a1 == (List.getD a0 (Int.toNat x1) (0 : Int))) = false → (True ∧ (True ∧ (True) ∧ (((True) ∧ (True) ∧ True) ∧ TripN cfg (cpath (Tryd.f21.body.getD .skip) [1, 0, 1, 0, 0]) n (slices_Index_int_int.l0_S a0 a1 (IntKind.wrap .i64 (x1 + (1 : Int)))) (slices_Index_int_int.l0_Q a0 a1 r))))))) ∧ ((decide (x1 < (((List.length a0) : Nat) : Int))) = false → (((True) ∧ (True) ∧ True) ∧ slices_Index_int_int.l0_Q a0 a1 r (.exit 0) ⟨[.any, .any, .any, .any, .any, .any, .any, .any, .any, .any, .any, .any, .any, .any, .any, .any, .any, .any, .any], [], 0⟩)))) (by kernel_rfl) ?_)
    refine ⟨trivial, ?_⟩
    refine ⟨fun b7 => ?_, fun b7 => ?_⟩
    · rw [if_pos (of_decide_eq_true b7)] at h
      obtain ⟨g9, h⟩ := of_guard h
      refine ⟨g9, ?_⟩
      refine ⟨trivial, ?_⟩
      refine ⟨trivial, ?_⟩
      refine ⟨fun b8 => ?_, fun b8 => ?_⟩
      · rw [if_pos (beq_t b8)] at h
        refine ⟨trivial, ?_⟩
        obtain rfl := Option.some.inj h
        exact ⟨⟨trivial, trivial, trivial⟩, rfl, rfl⟩
      · rw [if_neg (beq_f b8)] at h
        refine ⟨trivial, ?_⟩
        refine ⟨trivial, ?_⟩
        refine ⟨trivial, ?_⟩
        exact ⟨⟨trivial, trivial, trivial⟩, ih (IntKind.wrap .i64 (x1 + (1 : Int))) r h⟩
    · rw [if_neg (of_decide_eq_false b7)] at h
      obtain rfl := Option.some.inj h
      exact ⟨⟨trivial, trivial, trivial⟩, rfl, rfl⟩
def slices_Index_int_int.f (a0 : (List Int)) (a1 : Int) : Option Int :=
  (slices_Index_int_int.l0 a0 a1 FUEL (0 : Int)).bind fun t6 =>
  match t6 with
  | .inl t11 =>
    some (-1 : Int)
  | .inr t12 =>
    some t12
def slices_Index_int_int.R (r : Int) : Tm := .v (.one (.sc (.int .i64 r)))
theorem slices_Index_int_int.fun_ {a0 : (List Int)} {a1 : Int} {r : Int} (h : slices_Index_int_int.f a0 a1 = some r) : Fun cfg 21 [.one (.fs (.int .i64) a0 false), .one (.sc (.int .i64 a1))] [] (slices_Index_int_int.R r) [] := by
  unfold slices_Index_int_int.f at h
  refine fun_of_run cfg_ok (f := 21) (fn := Tryd.f21) Tryd.func21 rfl (by kernel_rfl) (rs := [.tmp 4]) rfl (nt := 19) rfl (l := fin) (k := (.adj [] (.adj [] (.adj [] (.adj [.keep [0, 1, 7, 8]] (.alt (.sub (Unit) (fun _ => (.exit 0)) (fun t11 => ⟨[.any, .any, .any, .any, .any, .any, .any, .any, .any, .any, .any, .any, .any, .any, .any, .any, .any, .any, .any], [], 0⟩) (fun t11 => (.adj [] (.adj [] (.adj [] .nil))))) (.sub (Int) (fun _ => .ret) (fun t12 => ⟨[.any, .any, .any, .any, .v (.one (.sc (.int .i64 t12))), .any, .any, .any, .any, .any, .any, .any, .any, .any, .any, .any, .any, .any, .any], [], 0⟩) (fun t12 => (.adj [] .nil))))))))) (to_goal (q := (True ∧ (True ∧ (True) ∧ (True ∧ (((True) ∧ True) ∧ ((∃ t11 : Unit, Trip cfg (.loop (cpath (Tryd.f21.body.getD .skip) [1, 0, 1, 0, 0])) ⟨[.v (.one (.fs (.int .i64) a0 false)), .v (.one (.sc (.int .i64 a1))), .any, .any, .any, .any, .any, .v (.one (.sc (.int .i64 (((List.length a0) : Nat) : Int)))), .v (.one (.sc (.int .i64 (0 : Int)))), .any, .any, .any, .any, .any, .any, .any, .any, .any, .any], [], 0⟩ (fun e s => e = (.exit 0) ∧ s = ⟨[.any, .any, .any, .any, .any, .any, .any, .any, .any, .any, .any, .any, .any, .any, .any, .any, .any, .any, .any], [], 0⟩) ∧ (True ∧ (True ∧ ((True) ∧ (True) ∧ (.v (.one (.sc (.int .i64 (-1 : Int)))) : Tm) = slices_Index_int_int.R r ∧ ([] : List Box) = [])))) ∨ (∃ t12 : Int, Trip cfg (.loop (cpath (Tryd.f21.body.getD .skip) [1, 0, 1, 0, 0])) ⟨[.v (.one (.fs (.int .i64) a0 false)), .v (.one (.sc (.int .i64 a1))), .any, .any, .any, .any, .any, .v (.one (.sc (.int .i64 (((List.length a0) : Nat) : Int)))), .v (.one (.sc (.int .i64 (0 : Int)))), .any, .any, .any, .any, .any, .any, .any, .any, .any, .any], [], 0⟩ (fun e s => e = .ret ∧ s = ⟨[.any, .any, .any, .any, .v (.one (.sc (.int .i64 t12))), .any, .any, .any, .any, .any, .any, .any, .any, .any, .any, .any, .any, .any, .any], [], 0⟩) ∧ ((True) ∧ (True) ∧ (.v (.one (.sc (.int .i64 t12))) : Tm) = slices_Index_int_int.R r ∧ ([] : List Box) = [])))))))) (by kernel_rfl) ?_)
  refine ⟨trivial, ?_⟩
  refine ⟨trivial, ?_⟩
  refine ⟨trivial, ?_⟩
  refine ⟨trivial, ?_⟩
  obtain ⟨t6, ht6, h⟩ := of_bind h
  refine ⟨⟨trivial, trivial⟩, ?_⟩
  rcases t6 with t11 | t12
  · dsimp only at h
    left
    refine ⟨t11, Trip.loop FUEL (slices_Index_int_int.l0_ok a0 a1 FUEL (0 : Int) (.inl t11) ht6), ?_⟩
    refine ⟨trivial, ?_⟩
    refine ⟨trivial, ?_⟩
    obtain rfl := Option.some.inj h
    exact ⟨trivial, trivial, rfl, rfl⟩
  · dsimp only at h
    right
    refine ⟨t12, Trip.loop FUEL (slices_Index_int_int.l0_ok a0 a1 FUEL (0 : Int) (.inr t12) ht6), ?_⟩
    obtain rfl := Option.some.inj h
    exact ⟨trivial, trivial, rfl, rfl⟩
/-! (*halter/frames.Frames).Alloc -/
def frames_Frames_Alloc_v1.f (a0 : Nat) (a1 : Nat) (a2 : (List Int)) : Option (Int × (Option Int) × (List Int)) :=
  if 0 + a0 ≤ a1 then
    (slices_Index_int_int.f (List.take a0 a2) (0 : Int)).bind fun t1 =>
    if t1 < (0 : Int) then
      some ((0 : Int), (some (12 : Int)), a2)
    else
      if 0 ≤ t1 ∧ t1 < ((a0 : Nat) : Int) then
        if (0 + (Int.toNat t1)) < a1 then
          some (t1, none, (List.set a2 (0 + (Int.toNat t1)) (1 : Int)))
        else none
      else none
  else none
def frames_Frames_Alloc_v1.R (r : Int × (Option Int) × (List Int)) : Tm := .tup [.one (.sc (.int .i64 r.1)), .one (.err r.2.1)]
def frames_Frames_Alloc_v1.B (a0 : Nat) (a1 : Nat) (a2 : (List Int)) (r : Int × (Option Int) × (List Int)) : List Box := [.ex false [.c (.os 1 0 0 1 a0 none)] 58, .ex false [.row a1 (.int .i64) r.2.2] 3]
theorem frames_Frames_Alloc_v1.fun_ {a0 : Nat} {a1 : Nat} {a2 : (List Int)} {r : Int × (Option Int) × (List Int)} (h : frames_Frames_Alloc_v1.f a0 a1 a2 = some r) : Fun cfg 6 [.one (.ptr 0 ⟨0, 0, 0, 0⟩)] [.ex false [.c (.os 1 0 0 1 a0 none)] 58, .ex false [.row a1 (.int .i64) a2] 3] (frames_Frames_Alloc_v1.R r) (frames_Frames_Alloc_v1.B a0 a1 a2 r) := by
  unfold frames_Frames_Alloc_v1.f at h
  refine fun_of_run cfg_ok (f := 6) (fn := Tryd.f6) Tryd.func6 rfl (by kernel_rfl) (rs := [.tmp 2, .tmp 3]) rfl (nt := 23) rfl (l := fin) (k := (.one false (.call false [] (Int) (fun t1 => slices_Index_int_int.R t1) (fun t1 => (.br (.adj [] (.adj [] (.adj [] .nil))) (.adj [] (.adj [] (.adj [] (.adj [] (.adj [] .nil)))))))))) (to_goal (q := (True) ∧ (false = false ∧ (True) ∧ (∃ t1 : Int, ((0 + a0 ≤ a1) ∧ Fun cfg 21 [.one (.fs (.int .i64) (List.take a0 a2) false), .one (.sc (.int .i64 (0 : Int)))] [] (slices_Index_int_int.R t1) [] ∧ True) ∧ (True) ∧ (((decide (t1 < (0 : Int))) = true → (True ∧ (True ∧ ((True) ∧ (True) ∧ (.tup [.one (.sc (.int .i64 (0 : Int))), .one (.err (some (12 : Int)))] : Tm) = frames_Frames_Alloc_v1.R r ∧ ([.ex false [.c (.os 1 0 0 1 a0 none)] 58, .ex false [.row a1 (.int .i64) a2] 3] : List Box) = frames_Frames_Alloc_v1.B a0 a1 a2 r)))) ∧ ((decide (t1 < (0 : Int))) = false → (True ∧ (True ∧ (True) ∧ (0 ≤ t1 ∧ t1 < ((a0 : Nat) : Int)) ∧ ((0 + (Int.toNat t1)) < a1) ∧ (True ∧ (True ∧ ((True) ∧ (True) ∧ (.tup [.one (.sc (.int .i64 t1)), .one (.err none)] : Tm) = frames_Frames_Alloc_v1.R r ∧ ([.ex false [.c (.os 1 0 0 1 a0 none)] 58, .ex false [.row a1 (.int .i64) (List.set a2 (0 + (Int.toNat t1)) (1 : Int))] 3] : List Box) = frames_Frames_Alloc_v1.B a0 a1 a2 r)))))))))) (by kernel_rfl) ?_)
  refine ⟨trivial, ?_⟩
  refine ⟨rfl, ?_⟩
  refine ⟨trivial, ?_⟩
  obtain ⟨g5, h⟩ := of_guard h
  obtain ⟨t1, ht1, h⟩ := of_bind h
  refine ⟨t1, ⟨g5, slices_Index_int_int.fun_ ht1, trivial⟩, ?_⟩
  refine ⟨trivial, ?_⟩
  refine ⟨fun b2 => ?_, fun b2 => ?_⟩
  · rw [if_pos (of_decide_eq_true b2)] at h
    refine ⟨trivial, ?_⟩
    refine ⟨trivial, ?_⟩
    obtain rfl := Option.some.inj h
    exact ⟨trivial, trivial, rfl, rfl⟩
  · rw [if_neg (of_decide_eq_false b2)] at h
    refine ⟨trivial, ?_⟩
    refine ⟨trivial, ?_⟩
    refine ⟨trivial, ?_⟩
    obtain ⟨g4, h⟩ := of_guard h
    refine ⟨g4, ?_⟩
    obtain ⟨g3, h⟩ := of_guard h
    refine ⟨g3, ?_⟩
    refine ⟨trivial, ?_⟩
    refine ⟨trivial, ?_⟩
    obtain rfl := Option.some.inj h
    exact ⟨trivial, trivial, rfl, rfl⟩
/-! (*halter/frames.Frames).Refs -/
def frames_Frames_Refs_v1.f (a0 : Int) (a1 : Nat) (a2 : Nat) (a3 : (List Int)) : Option Int :=
  if a0 < (0 : Int) then
    some (0 : Int)
  else
    if a0 ≥ ((a1 : Nat) : Int) then
      some (0 : Int)
    else
      if 0 ≤ a0 ∧ a0 < ((a1 : Nat) : Int) then
        if (0 + (Int.toNat a0)) < a2 then
          some (List.getD a3 (0 + (Int.toNat a0)) (0 : Int))
        else none
      else none
def frames_Frames_Refs_v1.R (r : Int) : Tm := .v (.one (.sc (.int .i64 r)))
def frames_Frames_Refs_v1.B (a0 : Int) (a1 : Nat) (a2 : Nat) (a3 : (List Int)) (r : Int) : List Box := [.ex false [.c (.os 1 0 0 1 a1 none)] 58, .ex false [.row a2 (.int .i64) a3] 3]
theorem frames_Frames_Refs_v1.fun_ {a0 : Int} {a1 : Nat} {a2 : Nat} {a3 : (List Int)} {r : Int} (h : frames_Frames_Refs_v1.f a0 a1 a2 a3 = some r) : Fun cfg 10 [.one (.ptr 0 ⟨0, 0, 0, 0⟩), .one (.sc (.int .i64 a0))] [.ex false [.c (.os 1 0 0 1 a1 none)] 58, .ex false [.row a2 (.int .i64) a3] 3] (frames_Frames_Refs_v1.R r) (frames_Frames_Refs_v1.B a0 a1 a2 a3 r) := by
  unfold frames_Frames_Refs_v1.f at h
  refine fun_of_run cfg_ok (f := 10) (fn := Tryd.f10) Tryd.func10 rfl (by kernel_rfl) (rs := [.tmp 4]) rfl (nt := 27) rfl (l := fin) (k := (.one false (.one false (.one false (.br (.one true (.one true (.one true (.one true (.one true (.one true (.one true (.one true (.adj [] (.adj [] (.adj [] .nil))))))))))) (.one false (.one false (.one false (.one false (.one false (.one false (.one false (.br (.adj [] (.adj [] (.adj [] .nil))) (.adj [] (.adj [] (.adj [] (.adj [] .nil))))))))))))))))) (to_goal (q := (True) ∧ (false = false ∧ (false = false ∧ (True) ∧ (false = false ∧ (((decide (a0 < (0 : Int))) = false → ((decide (a0 < (0 : Int))) = false ∧ ((decide (a0 < (0 : Int))) = false ∧ ((decide (a0 < (0 : Int))) = false ∧ ((decide (a0 < (0 : Int))) = false ∧ (True) ∧ ((decide (a0 < (0 : Int))) = false ∧ (True) ∧ ((decide (a0 < (0 : Int))) = false ∧ (True) ∧ ((decide (a0 < (0 : Int))) = false ∧ (((decide (a0 ≥ ((a1 : Nat) : Int))) = true → (True ∧ (True ∧ ((True) ∧ (True) ∧ (.v (.one (.sc (.int .i64 (0 : Int)))) : Tm) = frames_Frames_Refs_v1.R r ∧ ([.ex false [.c (.os 1 0 0 1 a1 none)] 58, .ex false [.row a2 (.int .i64) a3] 3] : List Box) = frames_Frames_Refs_v1.B a0 a1 a2 a3 r)))) ∧ ((decide (a0 ≥ ((a1 : Nat) : Int))) = false → (True ∧ (True ∧ (True) ∧ (0 ≤ a0 ∧ a0 < ((a1 : Nat) : Int)) ∧ ((0 + (Int.toNat a0)) < a2) ∧ (True ∧ ((True) ∧ (True) ∧ (.v (.one (.sc (.int .i64 (List.getD a3 (0 + (Int.toNat a0)) (0 : Int))))) : Tm) = frames_Frames_Refs_v1.R r ∧ ([.ex false [.c (.os 1 0 0 1 a1 none)] 58, .ex false [.row a2 (.int .i64) a3] 3] : List Box) = frames_Frames_Refs_v1.B a0 a1 a2 a3 r)))))))))))))) ∧ ((decide (a0 < (0 : Int))) = true → ((decide (a0 < (0 : Int))) = true ∧ ((decide (a0 < (0 : Int))) = true ∧ ((decide (a0 < (0 : Int))) = true ∧ ((decide (a0 < (0 : Int))) = true ∧ ((decide (a0 < (0 : Int))) = true ∧ ((decide (a0 < (0 : Int))) = true ∧ ((decide (a0 < (0 : Int))) = true ∧ (true = true ∧ (True ∧ (True ∧ ((True) ∧ (True) ∧ (.v (.one (.sc (.int .i64 (0 : Int)))) : Tm) = frames_Frames_Refs_v1.R r ∧ ([.ex false [.c (.os 1 0 0 1 a1 none)] 58, .ex false [.row a2 (.int .i64) a3] 3] : List Box) = frames_Frames_Refs_v1.B a0 a1 a2 a3 r))))))))))))))))) (by kernel_rfl) ?_)
  refine ⟨trivial, ?_⟩
  refine ⟨rfl, ?_⟩
  refine ⟨rfl, ?_⟩
  refine ⟨trivial, ?_⟩
  refine ⟨rfl, ?_⟩
  refine ⟨fun b1 => ?_, fun b1 => ?_⟩
  · rw [if_neg (of_decide_eq_false b1)] at h
    refine ⟨b1, ?_⟩
    refine ⟨b1, ?_⟩
    refine ⟨b1, ?_⟩
    refine ⟨b1, ?_⟩
    refine ⟨trivial, ?_⟩
    refine ⟨b1, ?_⟩
    refine ⟨trivial, ?_⟩
    refine ⟨b1, ?_⟩
    refine ⟨trivial, ?_⟩
    refine ⟨b1, ?_⟩
    refine ⟨fun b2 => ?_, fun b2 => ?_⟩
    · rw [if_pos (of_decide_eq_true b2)] at h
      refine ⟨trivial, ?_⟩
      refine ⟨trivial, ?_⟩
      obtain rfl := Option.some.inj h
      exact ⟨trivial, trivial, rfl, rfl⟩
    · rw [if_neg (of_decide_eq_false b2)] at h
      refine ⟨trivial, ?_⟩
      refine ⟨trivial, ?_⟩
      refine ⟨trivial, ?_⟩
      obtain ⟨g4, h⟩ := of_guard h
      refine ⟨g4, ?_⟩
      obtain ⟨g3, h⟩ := of_guard h
      refine ⟨g3, ?_⟩
      refine ⟨trivial, ?_⟩
      obtain rfl := Option.some.inj h
      exact ⟨trivial, trivial, rfl, rfl⟩
  · rw [if_pos (of_decide_eq_true b1)] at h
    refine ⟨b1, ?_⟩
    refine ⟨b1, ?_⟩
    refine ⟨b1, ?_⟩
    refine ⟨b1, ?_⟩
    refine ⟨b1, ?_⟩
    refine ⟨b1, ?_⟩
    refine ⟨b1, ?_⟩
    refine ⟨rfl, ?_⟩
    refine ⟨trivial, ?_⟩
    refine ⟨trivial, ?_⟩
    obtain rfl := Option.some.inj h
    exact ⟨trivial, trivial, rfl, rfl⟩
/-! (*halter/frames.Frames).taken -/
def frames_Frames_taken_v1.f (a0 : Int) (a1 : Nat) (a2 : Nat) (a3 : (List Int)) : Option Bool :=
  (frames_Frames_Refs_v1.f a0 a1 a2 a3).bind fun t1 =>
  some (decide (t1 > (0 : Int)))
def frames_Frames_taken_v1.R (r : Bool) : Tm := .v (.one (.sc (.bool r)))
def frames_Frames_taken_v1.B (a0 : Int) (a1 : Nat) (a2 : Nat) (a3 : (List Int)) (r : Bool) : List Box := [.ex false [.c (.os 1 0 0 1 a1 none)] 58, .ex false [.row a2 (.int .i64) a3] 3]
theorem frames_Frames_taken_v1.fun_ {a0 : Int} {a1 : Nat} {a2 : Nat} {a3 : (List Int)} {r : Bool} (h : frames_Frames_taken_v1.f a0 a1 a2 a3 = some r) : Fun cfg 22 [.one (.ptr 0 ⟨0, 0, 0, 0⟩), .one (.sc (.int .i64 a0))] [.ex false [.c (.os 1 0 0 1 a1 none)] 58, .ex false [.row a2 (.int .i64) a3] 3] (frames_Frames_taken_v1.R r) (frames_Frames_taken_v1.B a0 a1 a2 a3 r) := by
  unfold frames_Frames_taken_v1.f at h
  refine fun_of_run cfg_ok (f := 22) (fn := Tryd.f22) Tryd.func22 rfl (by kernel_rfl) (rs := [.tmp 4]) rfl (nt := 9) rfl (l := fin) (k := (.callR true [] [0, 1] (Int) (fun t1 => (frames_Frames_Refs_v1.R t1)) (fun t1 => (frames_Frames_Refs_v1.B a0 a1 a2 a3 t1)) (fun t1 => (.adj [] (.adj [] .nil))))) (to_goal (q := (∃ t1 : Int, (Fun cfg 10 [.one (.ptr 0 ⟨0, 0, 0, 0⟩), .one (.sc (.int .i64 a0))] [.ex false [.c (.os 1 0 0 1 a1 none)] 58, .ex false [.row a2 (.int .i64) a3] 3] (frames_Frames_Refs_v1.R t1) (frames_Frames_Refs_v1.B a0 a1 a2 a3 t1) ∧ True) ∧ (True) ∧ (True ∧ ((True) ∧ (True) ∧ (.v (.one (.sc (.bool (decide (t1 > (0 : Int)))))) : Tm) = frames_Frames_taken_v1.R r ∧ ([.ex false [.c (.os 1 0 0 1 a1 none)] 58, .ex false [.row a2 (.int .i64) a3] 3] : List Box) = frames_Frames_taken_v1.B a0 a1 a2 a3 r)))) (by kernel_rfl) ?_)
  obtain ⟨t1, ht1, h⟩ := of_bind h
  refine ⟨t1, ⟨frames_Frames_Refs_v1.fun_ ht1, trivial⟩, ?_⟩
  refine ⟨trivial, ?_⟩
  refine ⟨trivial, ?_⟩
  obtain rfl := Option.some.inj h
  exact ⟨trivial, trivial, rfl, rfl⟩
/-! (*halter/frames.Frames).Ref -/
def frames_Frames_Ref_v1.f (a0 : Int) (a1 : Nat) (a2 : Nat) (a3 : (List Int)) : Option ((Option Int) × (List Int)) :=
  (frames_Frames_taken_v1.f a0 a1 a2 a3).bind fun t1 =>
  if ¬ (t1 = true) then
    some ((some (22 : Int)), a3)
  else
    if 0 ≤ a0 ∧ a0 < ((a1 : Nat) : Int) then
      if (0 + (Int.toNat a0)) < a2 then
        if (List.getD a3 (0 + (Int.toNat a0)) (0 : Int)) ≥ (1073741824 : Int) then
          some ((some (22 : Int)), a3)
        else
          if 0 ≤ a0 ∧ a0 < ((a1 : Nat) : Int) then
            if (0 + (Int.toNat a0)) < a2 then
              if 0 ≤ a0 ∧ a0 < ((a1 : Nat) : Int) then
                if (0 + (Int.toNat a0)) < a2 then
                  some (none, (List.set a3 (0 + (Int.toNat a0)) (IntKind.wrap .i64 ((List.getD a3 (0 + (Int.toNat a0)) (0 : Int)) + (1 : Int)))))
                else none
              else none
            else none
          else none
      else none
    else none
def frames_Frames_Ref_v1.R (r : (Option Int) × (List Int)) : Tm := .v (.one (.err r.1))
def frames_Frames_Ref_v1.B (a0 : Int) (a1 : Nat) (a2 : Nat) (a3 : (List Int)) (r : (Option Int) × (List Int)) : List Box := [.ex false [.c (.os 1 0 0 1 a1 none)] 58, .ex false [.row a2 (.int .i64) r.2] 3]
theorem frames_Frames_Ref_v1.fun_ {a0 : Int} {a1 : Nat} {a2 : Nat} {a3 : (List Int)} {r : (Option Int) × (List Int)} (h : frames_Frames_Ref_v1.f a0 a1 a2 a3 = some r) : Fun cfg 9 [.one (.ptr 0 ⟨0, 0, 0, 0⟩), .one (.sc (.int .i64 a0))] [.ex false [.c (.os 1 0 0 1 a1 none)] 58, .ex false [.row a2 (.int .i64) a3] 3] (frames_Frames_Ref_v1.R r) (frames_Frames_Ref_v1.B a0 a1 a2 a3 r) := by
  unfold frames_Frames_Ref_v1.f at h
  refine fun_of_run cfg_ok (f := 9) (fn := Tryd.f9) Tryd.func9 rfl (by kernel_rfl) (rs := [.tmp 4]) rfl (nt := 29) rfl (l := fin) (k := (.callR true [] [0, 1] (Bool) (fun t1 => (frames_Frames_taken_v1.R t1)) (fun t1 => (frames_Frames_taken_v1.B a0 a1 a2 a3 t1)) (fun t1 => (.br (.one true (.one true (.one true (.one true (.one true (.one true (.one true (.one true (.one true (.adj [] (.adj [] (.adj [] .nil)))))))))))) (.one false (.one false (.one false (.one false (.one false (.one false (.one false (.one false (.br (.adj [] (.adj [] (.adj [] .nil))) (.adj [] (.adj [] (.adj [] (.adj [] (.adj [] .nil)))))))))))))))))) (to_goal (q := (∃ t1 : Bool, (Fun cfg 22 [.one (.ptr 0 ⟨0, 0, 0, 0⟩), .one (.sc (.int .i64 a0))] [.ex false [.c (.os 1 0 0 1 a1 none)] 58, .ex false [.row a2 (.int .i64) a3] 3] (frames_Frames_taken_v1.R t1) (frames_Frames_taken_v1.B a0 a1 a2 a3 t1) ∧ True) ∧ (((!t1) = false → ((!t1) = false ∧ ((!t1) = false ∧ ((!t1) = false ∧ (True) ∧ ((!t1) = false ∧ ((!t1) = false ∧ (0 ≤ a0 ∧ a0 < ((a1 : Nat) : Int)) ∧ ((!t1) = false ∧ ((0 + (Int.toNat a0)) < a2) ∧ ((!t1) = false ∧ (True) ∧ ((!t1) = false ∧ (((decide ((List.getD a3 (0 + (Int.toNat a0)) (0 : Int)) ≥ (1073741824 : Int))) = true → (True ∧ (True ∧ ((True) ∧ (True) ∧ (.v (.one (.err (some (22 : Int)))) : Tm) = frames_Frames_Ref_v1.R r ∧ ([.ex false [.c (.os 1 0 0 1 a1 none)] 58, .ex false [.row a2 (.int .i64) a3] 3] : List Box) = frames_Frames_Ref_v1.B a0 a1 a2 a3 r)))) ∧ ((decide ((List.getD a3 (0 + (Int.toNat a0)) (0 : Int)) ≥ (1073741824 : Int))) = false → (True ∧ (True ∧ (True) ∧ (0 ≤ a0 ∧ a0 < ((a1 : Nat) : Int)) ∧ ((0 + (Int.toNat a0)) < a2) ∧ (True) ∧ (0 ≤ a0 ∧ a0 < ((a1 : Nat) : Int)) ∧ ((0 + (Int.toNat a0)) < a2) ∧ (True ∧ (True ∧ ((True) ∧ (True) ∧ (.v (.one (.err none)) : Tm) = frames_Frames_Ref_v1.R r ∧ ([.ex false [.c (.os 1 0 0 1 a1 none)] 58, .ex false [.row a2 (.int .i64) (List.set a3 (0 + (Int.toNat a0)) (IntKind.wrap .i64 ((List.getD a3 (0 + (Int.toNat a0)) (0 : Int)) + (1 : Int))))] 3] : List Box) = frames_Frames_Ref_v1.B a0 a1 a2 a3 r)))))))))))))))) ∧ ((!t1) = true → ((!t1) = true ∧ ((!t1) = true ∧ ((!t1) = true ∧ ((!t1) = true ∧ ((!t1) = true ∧ ((!t1) = true ∧ ((!t1) = true ∧ ((!t1) = true ∧ (true = true ∧ (True ∧ (True ∧ ((True) ∧ (True) ∧ (.v (.one (.err (some (22 : Int)))) : Tm) = frames_Frames_Ref_v1.R r ∧ ([.ex false [.c (.os 1 0 0 1 a1 none)] 58, .ex false [.row a2 (.int .i64) a3] 3] : List Box) = frames_Frames_Ref_v1.B a0 a1 a2 a3 r)))))))))))))))) (by kernel_rfl) ?_)
  obtain ⟨t1, ht1, h⟩ := of_bind h
  refine ⟨t1, ⟨frames_Frames_taken_v1.fun_ ht1, trivial⟩, ?_⟩
  refine ⟨fun b2 => ?_, fun b2 => ?_⟩
  · rw [if_neg (not_not_intro (not_f b2))] at h
    refine ⟨b2, ?_⟩
    refine ⟨b2, ?_⟩
    refine ⟨b2, ?_⟩
    refine ⟨trivial, ?_⟩
    refine ⟨b2, ?_⟩
    refine ⟨b2, ?_⟩
    obtain ⟨g9, h⟩ := of_guard h
    refine ⟨g9, ?_⟩
    refine ⟨b2, ?_⟩
    obtain ⟨g8, h⟩ := of_guard h
    refine ⟨g8, ?_⟩
    refine ⟨b2, ?_⟩
    refine ⟨trivial, ?_⟩
    refine ⟨b2, ?_⟩
    refine ⟨fun b3 => ?_, fun b3 => ?_⟩
    · rw [if_pos (of_decide_eq_true b3)] at h
      refine ⟨trivial, ?_⟩
      refine ⟨trivial, ?_⟩
      obtain rfl := Option.some.inj h
      exact ⟨trivial, trivial, rfl, rfl⟩
    · rw [if_neg (of_decide_eq_false b3)] at h
      refine ⟨trivial, ?_⟩
      refine ⟨trivial, ?_⟩
      refine ⟨trivial, ?_⟩
      obtain ⟨g7, h⟩ := of_guard h
      refine ⟨g7, ?_⟩
      obtain ⟨g6, h⟩ := of_guard h
      refine ⟨g6, ?_⟩
      refine ⟨trivial, ?_⟩
      obtain ⟨g5, h⟩ := of_guard h
      refine ⟨g5, ?_⟩
      obtain ⟨g4, h⟩ := of_guard h
      refine ⟨g4, ?_⟩
      refine ⟨trivial, ?_⟩
      refine ⟨trivial, ?_⟩
      obtain rfl := Option.some.inj h
      exact ⟨trivial, trivial, rfl, rfl⟩
  · rw [if_pos (ff (not_t b2))] at h
    refine ⟨b2, ?_⟩
    refine ⟨b2, ?_⟩
    refine ⟨b2, ?_⟩
    refine ⟨b2, ?_⟩
    refine ⟨b2, ?_⟩
    refine ⟨b2, ?_⟩
    refine ⟨b2, ?_⟩
    refine ⟨b2, ?_⟩
    refine ⟨rfl, ?_⟩
    refine ⟨trivial, ?_⟩
    refine ⟨trivial, ?_⟩
    obtain rfl := Option.some.inj h
    exact ⟨trivial, trivial, rfl, rfl⟩
/-! (*halter/frames.Frames).Taken -/
def frames_Frames_Taken_v1.l0 (a0 : Nat) (a1 : Nat) (a2 : (List Int)) : Nat → (List Int) → Int → Option (List Int)
  | 0, _, _ => none
  | n + 1, x12, x13 =>
    if x13 < ((a0 : Nat) : Int) then
      if 0 ≤ x13 ∧ x13 < ((a0 : Nat) : Int) then
        if (0 + (Int.toNat x13)) < a1 then
          if (List.getD a2 (0 + (Int.toNat x13)) (0 : Int)) > (0 : Int) then
            if (0 = 0 ∧ 1 = 1) ∧ 0 = 0 ∧ (List.length x12) = (List.length x12) ∧ (((List.length x12) + 1) * 8 ≤ 140737488355328 ∧ (List.length x12) + 1 ≤ 9223372036854775807) then
              frames_Frames_Taken_v1.l0 a0 a1 a2 n (x12 ++ [x13]) (IntKind.wrap .i64 (x13 + (1 : Int)))
            else none
          else
            frames_Frames_Taken_v1.l0 a0 a1 a2 n x12 (IntKind.wrap .i64 (x13 + (1 : Int)))
        else none
      else none
    else
      some x12
def frames_Frames_Taken_v1.l0_S (a0 : Nat) (a1 : Nat) (a2 : (List Int)) (x12 : List Int) (x13 : Int) : St := ⟨[.any, .any, .any, .v (.one (.os 2 0 0 1 (List.length x12) none)), .any, .any, .any, .any, .any, .any, .any, .v (.one (.os 1 0 0 1 a0 none)), .v (.one (.sc (.int .i64 ((a0 : Nat) : Int)))), .v (.one (.sc (.int .i64 x13))), .any, .any, .any, .any, .any, .any, .any, .any, .any, .any, .any, .any], [.ex false [.c (.os 1 0 0 1 a0 none)] 58, .ex false [.row a1 (.int .i64) a2] 3, .gro false (.int .i64) x12 3], 2⟩
def frames_Frames_Taken_v1.l0_Q (a0 : Nat) (a1 : Nat) (a2 : (List Int)) (t : (List Int)) : Exit → St → Prop := fun e s => e = (.exit 0) ∧ s = ⟨[.any, .any, .any, .v (.one (.os 2 0 0 1 (List.length t) none)), .any, .any, .any, .any, .any, .any, .any, .any, .any, .any, .any, .any, .any, .any, .any, .any, .any, .any, .any, .any, .any, .any], [.ex false [.c (.os 1 0 0 1 a0 none)] 58, .ex false [.row a1 (.int .i64) a2] 3, .gro false (.int .i64) t 3], 2⟩
theorem frames_Frames_Taken_v1.l0_ok (a0 : Nat) (a1 : Nat) (a2 : (List Int)) : ∀ (n : Nat) (x12 : List Int) (x13 : Int) (r : (List Int)), frames_Frames_Taken_v1.l0 a0 a1 a2 n x12 x13 = some r → TripN cfg (cpath (Tryd.f12.body.getD .skip) [1, 1, 1, 0, 1, 0, 0]) n (frames_Frames_Taken_v1.l0_S a0 a1 a2 x12 x13) (frames_Frames_Taken_v1.l0_Q a0 a1 a2 r) := by
  intro n
  induction n with
  | zero => intro x12 x13 r h; cases h
  | succ n ih =>
    intro x12 x13 r h
    rw [frames_Frames_Taken_v1.l0] at h
    refine TripN.of_run cfg_ok (k := (.br (.br (.d (.b true) (.adj [] (.adj [.keep [3, 11, 12, 13], .drop 3] .nil))) (.adj [] (.adj [] (.adj [.keep [3, 11, 12, 13], .drop 3] .nil)))) (.adj [.keep [3], .drop 3] .nil))) (to_goal (q := (True) ∧ (((decide (x13 < ((a0 : Nat) : Int))) = true → (0 ≤ x13 ∧ x13 < ((a0 : Nat) : Int)) ∧ ((0 + (Int.toNat x13)) < a1) ∧ (True) ∧ (((decide ((List.getD a2 (0 + (Int.toNat x13)) (0 : Int)) > (0 : Int))) = true → ((0 = 0 ∧ 1 = 1) ∧ 0 = 0 ∧ (List.length x12) = (List.length x12) ∧ (((List.length x12) + 1) * 8 ≤ 140737488355328 ∧ (List.length x12) + 1 ≤ 9223372036854775807)) ∧ (True ∧ (True) ∧ (((True) ∧ (True) ∧ True) ∧ TripN cfg (cpath (Tryd.f12.body.getD .skip) [1, 1, 1, 0, 1, 0, 0]) n (frames_Frames_Taken_v1.l0_S a0 a1 a2 (x12 ++ [x13]) (IntKind.wrap .i64 (x13 + (1 : Int)))) (frames_Frames_Taken_v1.l0_Q a0 a1 a2 r)))) ∧ ((decide ((List.getD a2 (0 + (Int.toNat x13)) (0 : Int)) > (0 : Int))) = false → (True ∧ (True ∧ (True) ∧ (((True) ∧ (True) ∧ True) ∧ TripN cfg (cpath (Tryd.f12.body.getD .skip) [1, 1, 1, 0, 1, 0, 0]) n (frames_Frames_Taken_v1.l0_S a0 a1 a2 x12 (IntKind.wrap .i64 (x13 + (1 : Int)))) (frames_Frames_Taken_v1.l0_Q a0 a1 a2 r))))))) ∧ ((decide (x13 < ((a0 : Nat) : Int))) = false → (((True) ∧ (True) ∧ True) ∧ frames_Frames_Taken_v1.l0_Q a0 a1 a2 r (.exit 0) ⟨[.any, .any, .any, .v (.one (.os 2 0 0 1 (List.length x12) none)), .any, .any, .any, .any, .any, .any, .any, .any, .any, .any, .any, .any, .any, .any, .any, .any, .any, .any, .any, .any, .any, .any], [.ex false [.c (.os 1 0 0 1 a0 none)] 58, .ex false [.row a1 (.int .i64) a2] 3, .gro false (.int .i64) x12 3], 2⟩)))) (by kernel_rfl) ?_)
    refine ⟨trivial, ?_⟩
    refine ⟨fun b21 => ?_, fun b21 => ?_⟩
    · rw [if_pos (of_decide_eq_true b21)] at h
      obtain ⟨g25, h⟩ := of_guard h
      refine ⟨g25, ?_⟩
      obtain ⟨g24, h⟩ := of_guard h
      refine ⟨g24, ?_⟩
      refine ⟨trivial, ?_⟩
      refine ⟨fun b22 => ?_, fun b22 => ?_⟩
      · rw [if_pos (of_decide_eq_true b22)] at h
        obtain ⟨g23, h⟩ := of_guard h
        refine ⟨g23, ?_⟩
        refine ⟨trivial, ?_⟩
        refine ⟨trivial, ?_⟩
        exact ⟨⟨trivial, trivial, trivial⟩, ih (x12 ++ [x13]) (IntKind.wrap .i64 (x13 + (1 : Int))) r h⟩
      · rw [if_neg (of_decide_eq_false b22)] at h
        refine ⟨trivial, ?_⟩
        refine ⟨trivial, ?_⟩
        refine ⟨trivial, ?_⟩
        exact ⟨⟨trivial, trivial, trivial⟩, ih x12 (IntKind.wrap .i64 (x13 + (1 : Int))) r h⟩
    · rw [if_neg (of_decide_eq_false b21)] at h
      obtain rfl := Option.some.inj h
      exact ⟨⟨trivial, trivial, trivial⟩, rfl, rfl⟩
def frames_Frames_Taken_v1.f (a0 : Nat) (a1 : Nat) (a2 : (List Int)) : Option (List Int) :=
  (frames_Frames_Taken_v1.l0 a0 a1 a2 FUEL ([] : List Int) (0 : Int)).bind fun t20 =>
  some t20
def frames_Frames_Taken_v1.R (r : (List Int)) : Tm := .v (.one (.fs (.int .i64) r false))
def frames_Frames_Taken_v1.B (a0 : Nat) (a1 : Nat) (a2 : (List Int)) (r : (List Int)) : List Box := [.ex false [.c (.os 1 0 0 1 a0 none)] 58, .ex false [.row a1 (.int .i64) a2] 3]
theorem frames_Frames_Taken_v1.fun_ {a0 : Nat} {a1 : Nat} {a2 : (List Int)} {r : (List Int)} (h : frames_Frames_Taken_v1.f a0 a1 a2 = some r) : Fun cfg 12 [.one (.ptr 0 ⟨0, 0, 0, 0⟩)] [.ex false [.c (.os 1 0 0 1 a0 none)] 58, .ex false [.row a1 (.int .i64) a2] 3] (frames_Frames_Taken_v1.R r) (frames_Frames_Taken_v1.B a0 a1 a2 r) := by
  unfold frames_Frames_Taken_v1.f at h
  refine fun_of_run cfg_ok (f := 12) (fn := Tryd.f12) Tryd.func12 rfl (by kernel_rfl) (rs := [.tmp 2]) rfl (nt := 26) rfl (l := fin) (k := (.one false (.adj [] (.adj [] (.adj [] (.adj [] (.adj [.keep [3, 11, 12, 13], .nilGro 3 (.int .i64) 3] (.sub ((List Int)) (fun _ => (.exit 0)) (fun t20 => ⟨[.any, .any, .any, .v (.one (.os 2 0 0 1 (List.length t20) none)), .any, .any, .any, .any, .any, .any, .any, .any, .any, .any, .any, .any, .any, .any, .any, .any, .any, .any, .any, .any, .any, .any], [.ex false [.c (.os 1 0 0 1 a0 none)] 58, .ex false [.row a1 (.int .i64) a2] 3, .gro false (.int .i64) t20 3], 2⟩) (fun t20 => (.adj [] (.adj [] (.adj [.co 0 true [], .drop 2] .nil)))))))))))) (to_goal (q := (True) ∧ (false = false ∧ (True ∧ (True ∧ (True ∧ (True) ∧ (True) ∧ (True ∧ (((True) ∧ (True) ∧ True) ∧ (∃ t20 : (List Int), Trip cfg (.loop (cpath (Tryd.f12.body.getD .skip) [1, 1, 1, 0, 1, 0, 0])) ⟨[.any, .any, .any, .v (.one (.os 2 0 0 1 0 none)), .any, .any, .any, .any, .any, .any, .any, .v (.one (.os 1 0 0 1 a0 none)), .v (.one (.sc (.int .i64 ((a0 : Nat) : Int)))), .v (.one (.sc (.int .i64 (0 : Int)))), .any, .any, .any, .any, .any, .any, .any, .any, .any, .any, .any, .any], [.ex false [.c (.os 1 0 0 1 a0 none)] 58, .ex false [.row a1 (.int .i64) a2] 3, .gro false (.int .i64) ([] : List Int) 3], 2⟩ (fun e s => e = (.exit 0) ∧ s = ⟨[.any, .any, .any, .v (.one (.os 2 0 0 1 (List.length t20) none)), .any, .any, .any, .any, .any, .any, .any, .any, .any, .any, .any, .any, .any, .any, .any, .any, .any, .any, .any, .any, .any, .any], [.ex false [.c (.os 1 0 0 1 a0 none)] 58, .ex false [.row a1 (.int .i64) a2] 3, .gro false (.int .i64) t20 3], 2⟩) ∧ (True ∧ (True ∧ ((True) ∧ ((((0 = 0 ∧ (List.length t20) = (List.length t20))) ∧ True) ∧ (True) ∧ True) ∧ (.v (.one (.fs (.int .i64) t20 false)) : Tm) = frames_Frames_Taken_v1.R r ∧ ([.ex false [.c (.os 1 0 0 1 a0 none)] 58, .ex false [.row a1 (.int .i64) a2] 3] : List Box) = frames_Frames_Taken_v1.B a0 a1 a2 r))))))))))) (by kernel_rfl) ?_)
  refine ⟨trivial, ?_⟩
  refine ⟨rfl, ?_⟩
  refine ⟨trivial, ?_⟩
  refine ⟨trivial, ?_⟩
  refine ⟨trivial, ?_⟩
  refine ⟨trivial, ?_⟩
  refine ⟨trivial, ?_⟩
  refine ⟨trivial, ?_⟩
  obtain ⟨t20, ht20, h⟩ := of_bind h
  refine ⟨⟨trivial, trivial, trivial⟩, t20, Trip.loop FUEL (frames_Frames_Taken_v1.l0_ok a0 a1 a2 FUEL ([] : List Int) (0 : Int) t20 ht20), ?_⟩
  refine ⟨trivial, ?_⟩
  refine ⟨trivial, ?_⟩
  obtain rfl := Option.some.inj h
  exact ⟨trivial, ⟨⟨⟨rfl, rfl⟩, trivial⟩, trivial, trivial⟩, rfl, rfl⟩
/-! (*halter/frames.Frames).Free -/
def frames_Frames_Free_v1.f (a0 : Nat) (a1 : Nat) (a2 : (List Int)) : Option Int :=
  (frames_Frames_Taken_v1.f a0 a1 a2).bind fun t1 =>
  some (IntKind.wrap .i64 (((a0 : Nat) : Int) - (((List.length t1) : Nat) : Int)))
def frames_Frames_Free_v1.R (r : Int) : Tm := .v (.one (.sc (.int .i64 r)))
def frames_Frames_Free_v1.B (a0 : Nat) (a1 : Nat) (a2 : (List Int)) (r : Int) : List Box := [.ex false [.c (.os 1 0 0 1 a0 none)] 58, .ex false [.row a1 (.int .i64) a2] 3]
theorem frames_Frames_Free_v1.fun_ {a0 : Nat} {a1 : Nat} {a2 : (List Int)} {r : Int} (h : frames_Frames_Free_v1.f a0 a1 a2 = some r) : Fun cfg 11 [.one (.ptr 0 ⟨0, 0, 0, 0⟩)] [.ex false [.c (.os 1 0 0 1 a0 none)] 58, .ex false [.row a1 (.int .i64) a2] 3] (frames_Frames_Free_v1.R r) (frames_Frames_Free_v1.B a0 a1 a2 r) := by
  unfold frames_Frames_Free_v1.f at h
  refine fun_of_run cfg_ok (f := 11) (fn := Tryd.f11) Tryd.func11 rfl (by kernel_rfl) (rs := [.tmp 2]) rfl (nt := 14) rfl (l := fin) (k := (.one false (.ex ((List Int)) (fun t1 => (.drP [(0, dN), (1, dN), (2, dN), (5, dN), (3, ⟨none, .no, true⟩), (4, dN), (6, ⟨none, .callR true [] [0, 1] (frames_Frames_Taken_v1.R t1) (frames_Frames_Taken_v1.B a0 a1 a2 t1), true⟩), (7, dN), (8, dN), (9, dN)] [([0, 1, 2, 5, 6, 3, 4, 7, 8, 9], [0, 1])] ⟨[.v (.one (.ptr 0 ⟨0, 0, 0, 0⟩)), .any, .v (.one (.sc (.int .i64 (IntKind.wrap .i64 (((a0 : Nat) : Int) - (((List.length t1) : Nat) : Int)))))), .v (.one (.ptr 0 ⟨0, 0, 0, 0⟩)), .v (.one (.sc (.bool false))), .v (.one (.ptr 0 ⟨0, 0, 0, 0⟩)), .v (.one (.ptr 0 ⟨0, 0, 0, 0⟩)), .v (.one (.ptr 0 ⟨0, 0, 0, 0⟩)), .v (.one (.os 1 0 0 1 a0 none)), .v (.one (.sc (.int .i64 ((a0 : Nat) : Int)))), .v (.one (.ptr 0 ⟨0, 0, 0, 0⟩)), .v (.one (.fs (.int .i64) t1 false)), .v (.one (.sc (.int .i64 (((List.length t1) : Nat) : Int)))), .v (.one (.sc (.int .i64 (IntKind.wrap .i64 (((a0 : Nat) : Int) - (((List.length t1) : Nat) : Int))))))], [.ex false [.c (.os 1 0 0 1 a0 none)] 58, .ex false [.row a1 (.int .i64) a2] 3], 2⟩ (.adj [] (.adj [] .nil))))))) (to_goal (q := (True) ∧ (false = false ∧ (∃ t1 : (List Int), (((True) ∧ (True) ∧ (Fun cfg 12 [.one (.ptr 0 ⟨0, 0, 0, 0⟩)] [.ex false [.c (.os 1 0 0 1 a0 none)] 58, .ex false [.row a1 (.int .i64) a2] 3] (frames_Frames_Taken_v1.R t1) (frames_Frames_Taken_v1.B a0 a1 a2 t1) ∧ True) ∧ (True) ∧ (True) ∧ (⟨[.v (.one (.ptr 0 ⟨0, 0, 0, 0⟩)), .any, .v (.one (.sc (.int .i64 (IntKind.wrap .i64 (((a0 : Nat) : Int) - (((List.length t1) : Nat) : Int)))))), .v (.one (.ptr 0 ⟨0, 0, 0, 0⟩)), .v (.one (.sc (.bool false))), .v (.one (.ptr 0 ⟨0, 0, 0, 0⟩)), .v (.one (.ptr 0 ⟨0, 0, 0, 0⟩)), .v (.one (.ptr 0 ⟨0, 0, 0, 0⟩)), .v (.one (.os 1 0 0 1 a0 none)), .v (.one (.sc (.int .i64 ((a0 : Nat) : Int)))), .v (.one (.ptr 0 ⟨0, 0, 0, 0⟩)), .v (.one (.fs (.int .i64) t1 false)), .v (.one (.sc (.int .i64 (((List.length t1) : Nat) : Int)))), .v (.one (.sc (.int .i64 (IntKind.wrap .i64 (((a0 : Nat) : Int) - (((List.length t1) : Nat) : Int))))))], [.ex false [.c (.os 1 0 0 1 a0 none)] 58, .ex false [.row a1 (.int .i64) a2] 3], 2⟩ : St) = ⟨[.v (.one (.ptr 0 ⟨0, 0, 0, 0⟩)), .any, .v (.one (.sc (.int .i64 (IntKind.wrap .i64 (((a0 : Nat) : Int) - (((List.length t1) : Nat) : Int)))))), .v (.one (.ptr 0 ⟨0, 0, 0, 0⟩)), .v (.one (.sc (.bool false))), .v (.one (.ptr 0 ⟨0, 0, 0, 0⟩)), .v (.one (.ptr 0 ⟨0, 0, 0, 0⟩)), .v (.one (.ptr 0 ⟨0, 0, 0, 0⟩)), .v (.one (.os 1 0 0 1 a0 none)), .v (.one (.sc (.int .i64 ((a0 : Nat) : Int)))), .v (.one (.ptr 0 ⟨0, 0, 0, 0⟩)), .v (.one (.fs (.int .i64) t1 false)), .v (.one (.sc (.int .i64 (((List.length t1) : Nat) : Int)))), .v (.one (.sc (.int .i64 (IntKind.wrap .i64 (((a0 : Nat) : Int) - (((List.length t1) : Nat) : Int))))))], [.ex false [.c (.os 1 0 0 1 a0 none)] 58, .ex false [.row a1 (.int .i64) a2] 3], 2⟩) ∧ (((Fun cfg 12 [.one (.ptr 0 ⟨0, 0, 0, 0⟩)] [.ex false [.c (.os 1 0 0 1 a0 none)] 58, .ex false [.row a1 (.int .i64) a2] 3] (frames_Frames_Taken_v1.R t1) (frames_Frames_Taken_v1.B a0 a1 a2 t1) ∧ True) ∧ (True) ∧ (True) ∧ (True) ∧ (True) ∧ True ∧ (⟨[.v (.one (.ptr 0 ⟨0, 0, 0, 0⟩)), .any, .v (.one (.sc (.int .i64 (IntKind.wrap .i64 (((a0 : Nat) : Int) - (((List.length t1) : Nat) : Int)))))), .v (.one (.ptr 0 ⟨0, 0, 0, 0⟩)), .v (.one (.sc (.bool false))), .v (.one (.ptr 0 ⟨0, 0, 0, 0⟩)), .v (.one (.ptr 0 ⟨0, 0, 0, 0⟩)), .v (.one (.ptr 0 ⟨0, 0, 0, 0⟩)), .v (.one (.os 1 0 0 1 a0 none)), .v (.one (.sc (.int .i64 ((a0 : Nat) : Int)))), .v (.one (.ptr 0 ⟨0, 0, 0, 0⟩)), .v (.one (.fs (.int .i64) t1 false)), .v (.one (.sc (.int .i64 (((List.length t1) : Nat) : Int)))), .v (.one (.sc (.int .i64 (IntKind.wrap .i64 (((a0 : Nat) : Int) - (((List.length t1) : Nat) : Int))))))], [.ex false [.c (.os 1 0 0 1 a0 none)] 58, .ex false [.row a1 (.int .i64) a2] 3], 2⟩ : St) = ⟨[.v (.one (.ptr 0 ⟨0, 0, 0, 0⟩)), .any, .v (.one (.sc (.int .i64 (IntKind.wrap .i64 (((a0 : Nat) : Int) - (((List.length t1) : Nat) : Int)))))), .v (.one (.ptr 0 ⟨0, 0, 0, 0⟩)), .v (.one (.sc (.bool false))), .v (.one (.ptr 0 ⟨0, 0, 0, 0⟩)), .v (.one (.ptr 0 ⟨0, 0, 0, 0⟩)), .v (.one (.ptr 0 ⟨0, 0, 0, 0⟩)), .v (.one (.os 1 0 0 1 a0 none)), .v (.one (.sc (.int .i64 ((a0 : Nat) : Int)))), .v (.one (.ptr 0 ⟨0, 0, 0, 0⟩)), .v (.one (.fs (.int .i64) t1 false)), .v (.one (.sc (.int .i64 (((List.length t1) : Nat) : Int)))), .v (.one (.sc (.int .i64 (IntKind.wrap .i64 (((a0 : Nat) : Int) - (((List.length t1) : Nat) : Int))))))], [.ex false [.c (.os 1 0 0 1 a0 none)] 58, .ex false [.row a1 (.int .i64) a2] 3], 2⟩) ∧ True) ∧ (True ∧ ((True) ∧ (True) ∧ (.v (.one (.sc (.int .i64 (IntKind.wrap .i64 (((a0 : Nat) : Int) - (((List.length t1) : Nat) : Int)))))) : Tm) = frames_Frames_Free_v1.R r ∧ ([.ex false [.c (.os 1 0 0 1 a0 none)] 58, .ex false [.row a1 (.int .i64) a2] 3] : List Box) = frames_Frames_Free_v1.B a0 a1 a2 r)))))) (by kernel_rfl) ?_)
  refine ⟨trivial, ?_⟩
  refine ⟨rfl, ?_⟩
  obtain ⟨t1, ht1, h⟩ := of_bind h
  refine ⟨t1, ?_⟩
  refine ⟨⟨trivial, trivial, ⟨frames_Frames_Taken_v1.fun_ ht1, trivial⟩, trivial, trivial, rfl⟩, ⟨⟨⟨frames_Frames_Taken_v1.fun_ ht1, trivial⟩, trivial, trivial, trivial, trivial, trivial, rfl⟩, trivial⟩, ?_⟩
  refine ⟨trivial, ?_⟩
  obtain rfl := Option.some.inj h
  exact ⟨trivial, trivial, rfl, rfl⟩
/-! halter/halterlaw04.sure -/
def halterlaw04_sure.f : Option Bool :=
  (frames_New.f (2 : Int)).bind fun t1 =>
  match t1 with
  | .inl t2 =>
    some false
  | .inr t3 =>
    (frames_Frames_Alloc_v1.f t3.1 t3.2.1 t3.2.2).bind fun t4 =>
    (frames_Frames_Alloc_v1.f t3.1 t3.2.1 t4.2.2).bind fun t5 =>
    (frames_Frames_Alloc_v1.f t3.1 t3.2.1 t5.2.2).bind fun t6 =>
    (frames_Frames_Ref_v1.f (1 : Int) t3.1 t3.2.1 t6.2.2).bind fun t7 =>
    if t4.2.1 = none then
      if t5.2.1 = none then
        if t7.1 = none then
          (num.f t6.2.1).bind fun t11 =>
          if t11 = (12 : Int) then
            if t4.1 = (0 : Int) then
              if t5.1 = (1 : Int) then
                (frames_Frames_Refs_v1.f (1 : Int) t3.1 t3.2.1 t7.2).bind fun t15 =>
                if t15 = (2 : Int) then
                  (frames_Frames_Free_v1.f t3.1 t3.2.1 t7.2).bind fun t17 =>
                  if t17 = (0 : Int) then
                    (frames_Frames_Taken_v1.f t3.1 t3.2.1 t7.2).bind fun t19 =>
                    some ((((List.length t19) : Nat) : Int) == (2 : Int))
                  else
                    some false
                else
                  some false
              else
                some false
            else
              some false
          else
            some false
        else
          some false
      else
        some false
    else
      some false
def halterlaw04_sure.R (r : Bool) : Tm := .v (.one (.sc (.bool r)))
theorem halterlaw04_sure.fun_ {r : Bool} (h : halterlaw04_sure.f = some r) : Fun cfg 14 [] [] (halterlaw04_sure.R r) [] := by
  unfold halterlaw04_sure.f at h
  refine fun_of_run cfg_ok (f := 14) (fn := Tryd.f14) Tryd.func14 rfl (by kernel_rfl) (rs := [.tmp 0]) rfl (nt := 76) rfl (l := fin) (k := (.alt (.callR true [] [] (Int) (fun t2 => (frames_New.R (.inl t2))) (fun t2 => (frames_New.B (2 : Int) (.inl t2))) (fun t2 => (.one true (.one true (.one true (.one true (.adj [] (.adj [] (.adj [] .nil))))))))) (.callR true [] [] (Nat × Nat × (List Int)) (fun t3 => (frames_New.R (.inr t3))) (fun t3 => (frames_New.B (2 : Int) (.inr t3))) (fun t3 => (.one false (.one false (.one false (.one false (.callR true [] [0, 1] (Int × (Option Int) × (List Int)) (fun t4 => (frames_Frames_Alloc_v1.R t4)) (fun t4 => (frames_Frames_Alloc_v1.B t3.1 t3.2.1 (z2 t3) t4)) (fun t4 => (.callR true [] [0, 1] (Int × (Option Int) × (List Int)) (fun t5 => (frames_Frames_Alloc_v1.R t5)) (fun t5 => (frames_Frames_Alloc_v1.B t3.1 t3.2.1 (z2 t4) t5)) (fun t5 => (.callR true [] [0, 1] (Int × (Option Int) × (List Int)) (fun t6 => (frames_Frames_Alloc_v1.R t6)) (fun t6 => (frames_Frames_Alloc_v1.B t3.1 t3.2.1 (z2 t5) t6)) (fun t6 => (.callR true [] [0, 1] ((Option Int) × (List Int)) (fun t7 => (frames_Frames_Ref_v1.R t7)) (fun t7 => (frames_Frames_Ref_v1.B (1 : Int) t3.1 t3.2.1 (z2 t6) t7)) (fun t7 => (.br (.one true (.one true (.br (.one true (.one true (.br (.one true (.call true [] (Int) (fun t11 => num.R t11) (fun t11 => (.one true (.one true (.br (.one true (.one true (.br (.one true (.one true (.br (.one true (.callR true [] [0, 1] (Int) (fun t15 => (frames_Frames_Refs_v1.R t15)) (fun t15 => (frames_Frames_Refs_v1.B (1 : Int) t3.1 t3.2.1 t7.2 t15)) (fun t15 => (.one true (.one true (.br (.one true (.callR true [] [0, 1] (Int) (fun t17 => (frames_Frames_Free_v1.R t17)) (fun t17 => (frames_Frames_Free_v1.B t3.1 t3.2.1 t7.2 t17)) (fun t17 => (.one true (.one true (.br (.one true (.callR true [] [0, 1] ((List Int)) (fun t19 => (frames_Frames_Taken_v1.R t19)) (fun t19 => (frames_Frames_Taken_v1.B t3.1 t3.2.1 t7.2 t19)) (fun t19 => (.one true (.one true (.one true (.adj [] (.adj [.drop 0] .nil)))))))) (.one false (.one false (.one false (.one false (.adj [] (.adj [.drop 0] .nil)))))))))))) (.one false (.one false (.one false (.one false (.one false (.one false (.one false (.one false (.adj [] (.adj [.drop 0] .nil)))))))))))))))) (.one false (.one false (.one false (.one false (.one false (.one false (.one false (.one false (.one false (.one false (.one false (.one false (.adj [] (.adj [.drop 0] .nil))))))))))))))))) (.one false (.one false (.one false (.one false (.one false (.one false (.one false (.one false (.one false (.one false (.one false (.one false (.one false (.one false (.one false (.adj [] (.adj [.drop 0] .nil)))))))))))))))))))) (.one false (.one false (.one false (.one false (.one false (.one false (.one false (.one false (.one false (.one false (.one false (.one false (.one false (.one false (.one false (.one false (.one false (.one false (.adj [] (.adj [.drop 0] .nil)))))))))))))))))))))))))) (.one false (.one false (.one false (.one false (.one false (.one false (.one false (.one false (.one false (.one false (.one false (.one false (.one false (.one false (.one false (.one false (.one false (.one false (.one false (.one false (.one false (.one false (.adj [] (.adj [.drop 0] .nil))))))))))))))))))))))))))) (.one false (.one false (.one false (.one false (.one false (.one false (.one false (.one false (.one false (.one false (.one false (.one false (.one false (.one false (.one false (.one false (.one false (.one false (.one false (.one false (.one false (.one false (.one false (.one false (.one false (.adj [] (.adj [.drop 0] .nil)))))))))))))))))))))))))))))) (.one false (.one false (.one false (.one false (.one false (.one false (.one false (.one false (.one false (.one false (.one false (.one false (.one false (.one false (.one false (.one false (.one false (.one false (.one false (.one false (.one false (.one false (.one false (.one false (.one false (.one false (.one false (.one false (.adj [] (.adj [.drop 0] .nil))))))))))))))))))))))))))))))))))))))))))))))) (to_goal (q := ((∃ t2 : Int, (Fun cfg 13 [.one (.sc (.int .i64 (2 : Int)))] [] (frames_New.R (.inl t2)) (frames_New.B (2 : Int) (.inl t2)) ∧ True) ∧ (True) ∧ (true = true ∧ (true = true ∧ (true = true ∧ (true = true ∧ (True ∧ (True ∧ ((True) ∧ (True) ∧ (.v (.one (.sc (.bool false))) : Tm) = halterlaw04_sure.R r ∧ ([] : List Box) = [])))))))) ∨ (∃ t3 : Nat × Nat × (List Int), (Fun cfg 13 [.one (.sc (.int .i64 (2 : Int)))] [] (frames_New.R (.inr t3)) (frames_New.B (2 : Int) (.inr t3)) ∧ True) ∧ (True) ∧ (false = false ∧ (false = false ∧ (True) ∧ (false = false ∧ (false = false ∧ (∃ t4 : Int × (Option Int) × (List Int), (Fun cfg 6 [.one (.ptr 0 ⟨0, 0, 0, 0⟩)] [.ex false [.c (.os 1 0 0 1 t3.1 none)] 58, .ex false [.row t3.2.1 (.int .i64) (z2 t3)] 3] (frames_Frames_Alloc_v1.R t4) (frames_Frames_Alloc_v1.B t3.1 t3.2.1 (z2 t3) t4) ∧ True) ∧ (∃ t5 : Int × (Option Int) × (List Int), (Fun cfg 6 [.one (.ptr 0 ⟨0, 0, 0, 0⟩)] [.ex false [.c (.os 1 0 0 1 t3.1 none)] 58, .ex false [.row t3.2.1 (.int .i64) (z2 t4)] 3] (frames_Frames_Alloc_v1.R t5) (frames_Frames_Alloc_v1.B t3.1 t3.2.1 (z2 t4) t5) ∧ True) ∧ (∃ t6 : Int × (Option Int) × (List Int), (Fun cfg 6 [.one (.ptr 0 ⟨0, 0, 0, 0⟩)] [.ex false [.c (.os 1 0 0 1 t3.1 none)] 58, .ex false [.row t3.2.1 (.int .i64) (z2 t5)] 3] (frames_Frames_Alloc_v1.R t6) (frames_Frames_Alloc_v1.B t3.1 t3.2.1 (z2 t5) t6) ∧ True) ∧ (∃ t7 : (Option Int) × (List Int), (Fun cfg 9 [.one (.ptr 0 ⟨0, 0, 0, 0⟩), .one (.sc (.int .i64 (1 : Int)))] [.ex false [.c (.os 1 0 0 1 t3.1 none)] 58, .ex false [.row t3.2.1 (.int .i64) (z2 t6)] 3] (frames_Frames_Ref_v1.R t7) (frames_Frames_Ref_v1.B (1 : Int) t3.1 t3.2.1 (z2 t6) t7) ∧ True) ∧ (True) ∧ (((Option.isNone t4.2.1) = true → ((Option.isNone t4.2.1) = true ∧ (True) ∧ ((Option.isNone t4.2.1) = true ∧ (((Option.isNone t5.2.1) = true → ((Option.isNone t5.2.1) = true ∧ (True) ∧ ((Option.isNone t5.2.1) = true ∧ (((Option.isNone t7.1) = true → ((Option.isNone t7.1) = true ∧ (∃ t11 : Int, (Fun cfg 8 [.one (.err t6.2.1)] [] (num.R t11) [] ∧ True) ∧ ((Option.isNone t7.1) = true ∧ (True) ∧ ((Option.isNone t7.1) = true ∧ (((t11 == (12 : Int)) = true → ((t11 == (12 : Int)) = true ∧ (True) ∧ ((t11 == (12 : Int)) = true ∧ (((t4.1 == (0 : Int)) = true → ((t4.1 == (0 : Int)) = true ∧ (True) ∧ ((t4.1 == (0 : Int)) = true ∧ (((t5.1 == (1 : Int)) = true → ((t5.1 == (1 : Int)) = true ∧ (∃ t15 : Int, (Fun cfg 10 [.one (.ptr 0 ⟨0, 0, 0, 0⟩), .one (.sc (.int .i64 (1 : Int)))] [.ex false [.c (.os 1 0 0 1 t3.1 none)] 58, .ex false [.row t3.2.1 (.int .i64) t7.2] 3] (frames_Frames_Refs_v1.R t15) (frames_Frames_Refs_v1.B (1 : Int) t3.1 t3.2.1 t7.2 t15) ∧ True) ∧ ((t5.1 == (1 : Int)) = true ∧ (True) ∧ ((t5.1 == (1 : Int)) = true ∧ (((t15 == (2 : Int)) = true → ((t15 == (2 : Int)) = true ∧ (∃ t17 : Int, (Fun cfg 11 [.one (.ptr 0 ⟨0, 0, 0, 0⟩)] [.ex false [.c (.os 1 0 0 1 t3.1 none)] 58, .ex false [.row t3.2.1 (.int .i64) t7.2] 3] (frames_Frames_Free_v1.R t17) (frames_Frames_Free_v1.B t3.1 t3.2.1 t7.2 t17) ∧ True) ∧ ((t15 == (2 : Int)) = true ∧ (True) ∧ ((t15 == (2 : Int)) = true ∧ (((t17 == (0 : Int)) = true → ((t17 == (0 : Int)) = true ∧ (∃ t19 : (List Int), (Fun cfg 12 [.one (.ptr 0 ⟨0, 0, 0, 0⟩)] [.ex false [.c (.os 1 0 0 1 t3.1 none)] 58, .ex false [.row t3.2.1 (.int .i64) t7.2] 3] (frames_Frames_Taken_v1.R t19) (frames_Frames_Taken_v1.B t3.1 t3.2.1 t7.2 t19) ∧ True) ∧ ((t17 == (0 : Int)) = true ∧ (True) ∧ ((t17 == (0 : Int)) = true ∧ (True) ∧ ((t17 == (0 : Int)) = true ∧ (True ∧ ((True) ∧ ((True) ∧ True) ∧ (.v (.one (.sc (.bool ((((List.length t19) : Nat) : Int) == (2 : Int))))) : Tm) = halterlaw04_sure.R r ∧ ([] : List Box) = [])))))))) ∧ ((t17 == (0 : Int)) = false → ((t17 == (0 : Int)) = false ∧ ((t17 == (0 : Int)) = false ∧ ((t17 == (0 : Int)) = false ∧ ((t17 == (0 : Int)) = false ∧ (True ∧ ((True) ∧ ((True) ∧ True) ∧ (.v (.one (.sc (.bool false))) : Tm) = halterlaw04_sure.R r ∧ ([] : List Box) = []))))))))))))) ∧ ((t15 == (2 : Int)) = false → ((t15 == (2 : Int)) = false ∧ ((t15 == (2 : Int)) = false ∧ ((t15 == (2 : Int)) = false ∧ (false = false ∧ (false = false ∧ (false = false ∧ (false = false ∧ (false = false ∧ (True ∧ ((True) ∧ ((True) ∧ True) ∧ (.v (.one (.sc (.bool false))) : Tm) = halterlaw04_sure.R r ∧ ([] : List Box) = []))))))))))))))))) ∧ ((t5.1 == (1 : Int)) = false → ((t5.1 == (1 : Int)) = false ∧ ((t5.1 == (1 : Int)) = false ∧ ((t5.1 == (1 : Int)) = false ∧ (false = false ∧ (false = false ∧ (false = false ∧ (false = false ∧ (false = false ∧ (false = false ∧ (false = false ∧ (false = false ∧ (false = false ∧ (True ∧ ((True) ∧ ((True) ∧ True) ∧ (.v (.one (.sc (.bool false))) : Tm) = halterlaw04_sure.R r ∧ ([] : List Box) = []))))))))))))))))))) ∧ ((t4.1 == (0 : Int)) = false → ((t4.1 == (0 : Int)) = false ∧ ((t4.1 == (0 : Int)) = false ∧ (false = false ∧ (false = false ∧ (false = false ∧ (false = false ∧ (false = false ∧ (false = false ∧ (false = false ∧ (false = false ∧ (false = false ∧ (false = false ∧ (false = false ∧ (false = false ∧ (false = false ∧ (True ∧ ((True) ∧ ((True) ∧ True) ∧ (.v (.one (.sc (.bool false))) : Tm) = halterlaw04_sure.R r ∧ ([] : List Box) = [])))))))))))))))))))))) ∧ ((t11 == (12 : Int)) = false → ((t11 == (12 : Int)) = false ∧ ((t11 == (12 : Int)) = false ∧ (false = false ∧ (false = false ∧ (false = false ∧ (false = false ∧ (false = false ∧ (false = false ∧ (false = false ∧ (false = false ∧ (false = false ∧ (false = false ∧ (false = false ∧ (false = false ∧ (false = false ∧ (false = false ∧ (false = false ∧ (false = false ∧ (True ∧ ((True) ∧ ((True) ∧ True) ∧ (.v (.one (.sc (.bool false))) : Tm) = halterlaw04_sure.R r ∧ ([] : List Box) = []))))))))))))))))))))))))))) ∧ ((Option.isNone t7.1) = false → ((Option.isNone t7.1) = false ∧ ((Option.isNone t7.1) = false ∧ ((Option.isNone t7.1) = false ∧ (false = false ∧ (false = false ∧ (false = false ∧ (false = false ∧ (false = false ∧ (false = false ∧ (false = false ∧ (false = false ∧ (false = false ∧ (false = false ∧ (false = false ∧ (false = false ∧ (false = false ∧ (false = false ∧ (false = false ∧ (false = false ∧ (false = false ∧ (false = false ∧ (false = false ∧ (True ∧ ((True) ∧ ((True) ∧ True) ∧ (.v (.one (.sc (.bool false))) : Tm) = halterlaw04_sure.R r ∧ ([] : List Box) = []))))))))))))))))))))))))))))) ∧ ((Option.isNone t5.2.1) = false → ((Option.isNone t5.2.1) = false ∧ ((Option.isNone t5.2.1) = false ∧ (false = false ∧ (false = false ∧ (false = false ∧ (false = false ∧ (false = false ∧ (false = false ∧ (false = false ∧ (false = false ∧ (false = false ∧ (false = false ∧ (false = false ∧ (false = false ∧ (false = false ∧ (false = false ∧ (false = false ∧ (false = false ∧ (false = false ∧ (false = false ∧ (false = false ∧ (false = false ∧ (false = false ∧ (false = false ∧ (false = false ∧ (True ∧ ((True) ∧ ((True) ∧ True) ∧ (.v (.one (.sc (.bool false))) : Tm) = halterlaw04_sure.R r ∧ ([] : List Box) = [])))))))))))))))))))))))))))))))) ∧ ((Option.isNone t4.2.1) = false → ((Option.isNone t4.2.1) = false ∧ ((Option.isNone t4.2.1) = false ∧ (false = false ∧ (false = false ∧ (false = false ∧ (false = false ∧ (false = false ∧ (false = false ∧ (false = false ∧ (false = false ∧ (false = false ∧ (false = false ∧ (false = false ∧ (false = false ∧ (false = false ∧ (false = false ∧ (false = false ∧ (false = false ∧ (false = false ∧ (false = false ∧ (false = false ∧ (false = false ∧ (false = false ∧ (false = false ∧ (false = false ∧ (false = false ∧ (false = false ∧ (false = false ∧ (True ∧ ((True) ∧ ((True) ∧ True) ∧ (.v (.one (.sc (.bool false))) : Tm) = halterlaw04_sure.R r ∧ ([] : List Box) = []))))))))))))))))))))))))))))))))))))))))))) (by kernel_rfl) ?_)
  obtain ⟨t1, ht1, h⟩ := of_bind h
  rcases t1 with t2 | t3
  · dsimp only at h
    left
    refine ⟨t2, ⟨frames_New.fun_ ht1, trivial⟩, ?_⟩
    refine ⟨trivial, ?_⟩
    refine ⟨rfl, ?_⟩
    refine ⟨rfl, ?_⟩
    refine ⟨rfl, ?_⟩
    refine ⟨rfl, ?_⟩
    refine ⟨trivial, ?_⟩
    refine ⟨trivial, ?_⟩
    obtain rfl := Option.some.inj h
    exact ⟨trivial, trivial, rfl, rfl⟩
  · dsimp only at h
    right
    refine ⟨t3, ⟨frames_New.fun_ ht1, trivial⟩, ?_⟩
    refine ⟨trivial, ?_⟩
    refine ⟨rfl, ?_⟩
    refine ⟨rfl, ?_⟩
    refine ⟨trivial, ?_⟩
    refine ⟨rfl, ?_⟩
    refine ⟨rfl, ?_⟩
    obtain ⟨t4, ht4, h⟩ := of_bind h
    refine ⟨t4, ⟨frames_Frames_Alloc_v1.fun_ ht4, trivial⟩, ?_⟩
    obtain ⟨t5, ht5, h⟩ := of_bind h
    refine ⟨t5, ⟨frames_Frames_Alloc_v1.fun_ ht5, trivial⟩, ?_⟩
    obtain ⟨t6, ht6, h⟩ := of_bind h
    refine ⟨t6, ⟨frames_Frames_Alloc_v1.fun_ ht6, trivial⟩, ?_⟩
    obtain ⟨t7, ht7, h⟩ := of_bind h
    refine ⟨t7, ⟨frames_Frames_Ref_v1.fun_ ht7, trivial⟩, ?_⟩
    refine ⟨trivial, ?_⟩
    refine ⟨fun b8 => ?_, fun b8 => ?_⟩
    · rw [if_pos (none_t b8)] at h
      refine ⟨b8, ?_⟩
      refine ⟨trivial, ?_⟩
      refine ⟨b8, ?_⟩
      refine ⟨fun b9 => ?_, fun b9 => ?_⟩
      · rw [if_pos (none_t b9)] at h
        refine ⟨b9, ?_⟩
        refine ⟨trivial, ?_⟩
        refine ⟨b9, ?_⟩
        refine ⟨fun b10 => ?_, fun b10 => ?_⟩
        · rw [if_pos (none_t b10)] at h
          refine ⟨b10, ?_⟩
          obtain ⟨t11, ht11, h⟩ := of_bind h
          refine ⟨t11, ⟨num.fun_ ht11, trivial⟩, ?_⟩
          refine ⟨b10, ?_⟩
          refine ⟨trivial, ?_⟩
          refine ⟨b10, ?_⟩
          refine ⟨fun b12 => ?_, fun b12 => ?_⟩
          · rw [if_pos (beq_t b12)] at h
            refine ⟨b12, ?_⟩
            refine ⟨trivial, ?_⟩
            refine ⟨b12, ?_⟩
            refine ⟨fun b13 => ?_, fun b13 => ?_⟩
            · rw [if_pos (beq_t b13)] at h
              refine ⟨b13, ?_⟩
              refine ⟨trivial, ?_⟩
              refine ⟨b13, ?_⟩
              refine ⟨fun b14 => ?_, fun b14 => ?_⟩
              · rw [if_pos (beq_t b14)] at h
                refine ⟨b14, ?_⟩
                obtain ⟨t15, ht15, h⟩ := of_bind h
                refine ⟨t15, ⟨frames_Frames_Refs_v1.fun_ ht15, trivial⟩, ?_⟩
                refine ⟨b14, ?_⟩
                refine ⟨trivial, ?_⟩
                refine ⟨b14, ?_⟩
                refine ⟨fun b16 => ?_, fun b16 => ?_⟩
                · rw [if_pos (beq_t b16)] at h
                  refine ⟨b16, ?_⟩
                  obtain ⟨t17, ht17, h⟩ := of_bind h
                  refine ⟨t17, ⟨frames_Frames_Free_v1.fun_ ht17, trivial⟩, ?_⟩
                  refine ⟨b16, ?_⟩
                  refine ⟨trivial, ?_⟩
                  refine ⟨b16, ?_⟩
                  refine ⟨fun b18 => ?_, fun b18 => ?_⟩
                  · rw [if_pos (beq_t b18)] at h
                    refine ⟨b18, ?_⟩
                    obtain ⟨t19, ht19, h⟩ := of_bind h
                    refine ⟨t19, ⟨frames_Frames_Taken_v1.fun_ ht19, trivial⟩, ?_⟩
                    refine ⟨b18, ?_⟩
                    refine ⟨trivial, ?_⟩
                    refine ⟨b18, ?_⟩
                    refine ⟨trivial, ?_⟩
                    refine ⟨b18, ?_⟩
                    refine ⟨trivial, ?_⟩
                    obtain rfl := Option.some.inj h
                    exact ⟨trivial, ⟨trivial, trivial⟩, rfl, rfl⟩
                  · rw [if_neg (beq_f b18)] at h
                    refine ⟨b18, ?_⟩
                    refine ⟨b18, ?_⟩
                    refine ⟨b18, ?_⟩
                    refine ⟨b18, ?_⟩
                    refine ⟨trivial, ?_⟩
                    obtain rfl := Option.some.inj h
                    exact ⟨trivial, ⟨trivial, trivial⟩, rfl, rfl⟩
                · rw [if_neg (beq_f b16)] at h
                  refine ⟨b16, ?_⟩
                  refine ⟨b16, ?_⟩
                  refine ⟨b16, ?_⟩
                  refine ⟨rfl, ?_⟩
                  refine ⟨rfl, ?_⟩
                  refine ⟨rfl, ?_⟩
                  refine ⟨rfl, ?_⟩
                  refine ⟨rfl, ?_⟩
                  refine ⟨trivial, ?_⟩
                  obtain rfl := Option.some.inj h
                  exact ⟨trivial, ⟨trivial, trivial⟩, rfl, rfl⟩
              · rw [if_neg (beq_f b14)] at h
                refine ⟨b14, ?_⟩
                refine ⟨b14, ?_⟩
                refine ⟨b14, ?_⟩
                refine ⟨rfl, ?_⟩
                refine ⟨rfl, ?_⟩
                refine ⟨rfl, ?_⟩
                refine ⟨rfl, ?_⟩
                refine ⟨rfl, ?_⟩
                refine ⟨rfl, ?_⟩
                refine ⟨rfl, ?_⟩
                refine ⟨rfl, ?_⟩
                refine ⟨rfl, ?_⟩
                refine ⟨trivial, ?_⟩
                obtain rfl := Option.some.inj h
                exact ⟨trivial, ⟨trivial, trivial⟩, rfl, rfl⟩
            · rw [if_neg (beq_f b13)] at h
              refine ⟨b13, ?_⟩
              refine ⟨b13, ?_⟩
              refine ⟨rfl, ?_⟩
              refine ⟨rfl, ?_⟩
              refine ⟨rfl, ?_⟩
              refine ⟨rfl, ?_⟩
              refine ⟨rfl, ?_⟩
              refine ⟨rfl, ?_⟩
              refine ⟨rfl, ?_⟩
              refine ⟨rfl, ?_⟩
              refine ⟨rfl, ?_⟩
              refine ⟨rfl, ?_⟩
              refine ⟨rfl, ?_⟩
              refine ⟨rfl, ?_⟩
              refine ⟨rfl, ?_⟩
              refine ⟨trivial, ?_⟩
              obtain rfl := Option.some.inj h
              exact ⟨trivial, ⟨trivial, trivial⟩, rfl, rfl⟩
          · rw [if_neg (beq_f b12)] at h
            refine ⟨b12, ?_⟩
            refine ⟨b12, ?_⟩
            refine ⟨rfl, ?_⟩
            refine ⟨rfl, ?_⟩
            refine ⟨rfl, ?_⟩
            refine ⟨rfl, ?_⟩
            refine ⟨rfl, ?_⟩
            refine ⟨rfl, ?_⟩
            refine ⟨rfl, ?_⟩
            refine ⟨rfl, ?_⟩
            refine ⟨rfl, ?_⟩
            refine ⟨rfl, ?_⟩
            refine ⟨rfl, ?_⟩
            refine ⟨rfl, ?_⟩
            refine ⟨rfl, ?_⟩
            refine ⟨rfl, ?_⟩
            refine ⟨rfl, ?_⟩
            refine ⟨rfl, ?_⟩
            refine ⟨trivial, ?_⟩
            obtain rfl := Option.some.inj h
            exact ⟨trivial, ⟨trivial, trivial⟩, rfl, rfl⟩
        · rw [if_neg (none_f b10)] at h
          refine ⟨b10, ?_⟩
          refine ⟨b10, ?_⟩
          refine ⟨b10, ?_⟩
          refine ⟨rfl, ?_⟩
          refine ⟨rfl, ?_⟩
          refine ⟨rfl, ?_⟩
          refine ⟨rfl, ?_⟩
          refine ⟨rfl, ?_⟩
          refine ⟨rfl, ?_⟩
          refine ⟨rfl, ?_⟩
          refine ⟨rfl, ?_⟩
          refine ⟨rfl, ?_⟩
          refine ⟨rfl, ?_⟩
          refine ⟨rfl, ?_⟩
          refine ⟨rfl, ?_⟩
          refine ⟨rfl, ?_⟩
          refine ⟨rfl, ?_⟩
          refine ⟨rfl, ?_⟩
          refine ⟨rfl, ?_⟩
          refine ⟨rfl, ?_⟩
          refine ⟨rfl, ?_⟩
          refine ⟨rfl, ?_⟩
          refine ⟨trivial, ?_⟩
          obtain rfl := Option.some.inj h
          exact ⟨trivial, ⟨trivial, trivial⟩, rfl, rfl⟩
      · rw [if_neg (none_f b9)] at h
        refine ⟨b9, ?_⟩
        refine ⟨b9, ?_⟩
        refine ⟨rfl, ?_⟩
        refine ⟨rfl, ?_⟩
        refine ⟨rfl, ?_⟩
        refine ⟨rfl, ?_⟩
        refine ⟨rfl, ?_⟩
        refine ⟨rfl, ?_⟩
        refine ⟨rfl, ?_⟩
        refine ⟨rfl, ?_⟩
        refine ⟨rfl, ?_⟩
        refine ⟨rfl, ?_⟩
        refine ⟨rfl, ?_⟩
        refine ⟨rfl, ?_⟩
        refine ⟨rfl, ?_⟩
        refine ⟨rfl, ?_⟩
        refine ⟨rfl, ?_⟩
        refine ⟨rfl, ?_⟩
        refine ⟨rfl, ?_⟩
        refine ⟨rfl, ?_⟩
        refine ⟨rfl, ?_⟩
        refine ⟨rfl, ?_⟩
        refine ⟨rfl, ?_⟩
        refine ⟨rfl, ?_⟩
        refine ⟨rfl, ?_⟩
        refine ⟨trivial, ?_⟩
        obtain rfl := Option.some.inj h
        exact ⟨trivial, ⟨trivial, trivial⟩, rfl, rfl⟩
    · rw [if_neg (none_f b8)] at h
      refine ⟨b8, ?_⟩
      refine ⟨b8, ?_⟩
      refine ⟨rfl, ?_⟩
      refine ⟨rfl, ?_⟩
      refine ⟨rfl, ?_⟩
      refine ⟨rfl, ?_⟩
      refine ⟨rfl, ?_⟩
      refine ⟨rfl, ?_⟩
      refine ⟨rfl, ?_⟩
      refine ⟨rfl, ?_⟩
      refine ⟨rfl, ?_⟩
      refine ⟨rfl, ?_⟩
      refine ⟨rfl, ?_⟩
      refine ⟨rfl, ?_⟩
      refine ⟨rfl, ?_⟩
      refine ⟨rfl, ?_⟩
      refine ⟨rfl, ?_⟩
      refine ⟨rfl, ?_⟩
      refine ⟨rfl, ?_⟩
      refine ⟨rfl, ?_⟩
      refine ⟨rfl, ?_⟩
      refine ⟨rfl, ?_⟩
      refine ⟨rfl, ?_⟩
      refine ⟨rfl, ?_⟩
      refine ⟨rfl, ?_⟩
      refine ⟨rfl, ?_⟩
      refine ⟨rfl, ?_⟩
      refine ⟨rfl, ?_⟩
      refine ⟨trivial, ?_⟩
      obtain rfl := Option.some.inj h
      exact ⟨trivial, ⟨trivial, trivial⟩, rfl, rfl⟩
/-! halter/halterref04.Refs -/
def halterref04_Refs.l0 (a0 : Int) (a1 : (List Int)) (a2 : Int) : Nat → Int → Int → Option Int
  | 0, _, _ => none
  | n + 1, x1, x2 =>
    if x2 < (((List.length a1) : Nat) : Int) then
      if 0 ≤ x2 ∧ x2 < (((List.length a1) : Nat) : Int) then
        if (List.getD a1 (Int.toNat x2) (0 : Int)) = a2 then
          halterref04_Refs.l0 a0 a1 a2 n (IntKind.wrap .i64 (x1 + (1 : Int))) (IntKind.wrap .i64 (x2 + (1 : Int)))
        else
          halterref04_Refs.l0 a0 a1 a2 n x1 (IntKind.wrap .i64 (x2 + (1 : Int)))
      else none
    else
      some x1
def halterref04_Refs.l0_S (a0 : Int) (a1 : (List Int)) (a2 : Int) (x1 : Int) (x2 : Int) : St := ⟨[.any, .v (.one (.sc (.int .i64 a2))), .v (.one (.ptr 0 ⟨0, 0, 0, 0⟩)), .any, .any, .v (.one (.sc (.int .i64 x1))), .v (.one (.sc (.int .i64 x2))), .any, .any, .any, .any, .any, .any, .any, .any, .any, .any, .any, .any, .any, .any, .any, .any, .any], [.ex false [.c (.sc (.int .i64 a0)), .c (.fs (.int .i64) a1 false)] 40], 0⟩
def halterref04_Refs.l0_Q (a0 : Int) (a1 : (List Int)) (a2 : Int) (t : Int) : Exit → St → Prop := fun e s => e = (.exit 0) ∧ s = ⟨[.any, .any, .any, .any, .any, .v (.one (.sc (.int .i64 t))), .any, .any, .any, .any, .any, .any, .any, .any, .any, .any, .any, .any, .any, .any, .any, .any, .any, .any], [.ex false [.c (.sc (.int .i64 a0)), .c (.fs (.int .i64) a1 false)] 40], 0⟩
theorem halterref04_Refs.l0_ok (a0 : Int) (a1 : (List Int)) (a2 : Int) : ∀ (n : Nat) (x1 : Int) (x2 : Int) (r : Int), halterref04_Refs.l0 a0 a1 a2 n x1 x2 = some r → TripN cfg (cpath (Tryd.f18.body.getD .skip) [1, 1, 0, 1, 0, 0]) n (halterref04_Refs.l0_S a0 a1 a2 x1 x2) (halterref04_Refs.l0_Q a0 a1 a2 r) := by
  intro n
  induction n with
  | zero => intro x1 x2 r h; cases h
  | succ n ih =>
    intro x1 x2 r h
    rw [halterref04_Refs.l0] at h
    refine TripN.of_run cfg_ok (k := (.br (.br (.adj [] (.adj [] (.adj [.keep [1, 2, 5, 6], .drop 1] .nil))) (.adj [] (.adj [] (.adj [.keep [1, 2, 5, 6], .drop 1] .nil)))) (.adj [.keep [5], .drop 1] .nil))) (to_goal (q := (True) ∧ (True) ∧ (True) ∧ (((decide (x2 < (((List.length a1) : Nat) : Int))) = true → (True) ∧ (0 ≤ x2 ∧ x2 < (((List.length a1) : Nat) : Int)) ∧ (True) ∧ (True) ∧ ((((List.getD a1 (Int.toNat x2) (0 : Int)) == a2) = true → (True ∧ (True) ∧ (True ∧ (True) ∧ (((True) ∧ (True) ∧ True) ∧ TripN cfg (cpath (Tryd.f18.body.getD .skip) [1, 1, 0, 1, 0, 0]) n (halterref04_Refs.l0_S a0 a1 a2 (IntKind.wrap .i64 (x1 + (1 : Int))) (IntKind.wrap .i64 (x2 + (1 : Int)))) (halterref04_Refs.l0_Q a0 a1 a2 r))))) ∧ (((List.getD a1 (Int.toNat x2) (0 : Int)) == a2) = false → (True ∧ (True ∧ (True) ∧ (((True) ∧ (True) ∧ True) ∧ TripN cfg (cpath (Tryd.f18.body.getD .skip) [1, 1, 0, 1, 0, 0]) n (halterref04_Refs.l0_S a0 a1 a2 x1 (IntKind.wrap .i64 (x2 + (1 : Int)))) (halterref04_Refs.l0_Q a0 a1 a2 r))))))) ∧ ((decide (x2 < (((List.length a1) : Nat) : Int))) = false → (((True) ∧ (True) ∧ True) ∧ halterref04_Refs.l0_Q a0 a1 a2 r (.exit 0) ⟨[.any, .any, .any, .any, .any, .v (.one (.sc (.int .i64 x1))), .any, .any, .any, .any, .any, .any, .any, .any, .any, .any, .any, .any, .any, .any, .any, .any, .any, .any], [.ex false [.c (.sc (.int .i64 a0)), .c (.fs (.int .i64) a1 false)] 40], 0⟩)))) (by kernel_rfl) ?_)
    refine ⟨trivial, ?_⟩
    refine ⟨trivial, ?_⟩
    refine ⟨trivial, ?_⟩
    refine ⟨fun b8 => ?_, fun b8 => ?_⟩
    · rw [if_pos (of_decide_eq_true b8)] at h
      refine ⟨trivial, ?_⟩
      obtain ⟨g10, h⟩ := of_guard h
      refine ⟨g10, ?_⟩
      refine ⟨trivial, ?_⟩
      refine ⟨trivial, ?_⟩
      refine ⟨fun b9 => ?_, fun b9 => ?_⟩
      · rw [if_pos (beq_t b9)] at h
        refine ⟨trivial, ?_⟩
        refine ⟨trivial, ?_⟩
        refine ⟨trivial, ?_⟩
        refine ⟨trivial, ?_⟩
        exact ⟨⟨trivial, trivial, trivial⟩, ih (IntKind.wrap .i64 (x1 + (1 : Int))) (IntKind.wrap .i64 (x2 + (1 : Int))) r h⟩
      · rw [if_neg (beq_f b9)] at h
        refine ⟨trivial, ?_⟩
        refine ⟨trivial, ?_⟩
        refine ⟨trivial, ?_⟩
        exact ⟨⟨trivial, trivial, trivial⟩, ih x1 (IntKind.wrap .i64 (x2 + (1 : Int))) r h⟩
    · rw [if_neg (of_decide_eq_false b8)] at h
      obtain rfl := Option.some.inj h
      exact ⟨⟨trivial, trivial, trivial⟩, rfl, rfl⟩
def halterref04_Refs.f (a0 : Int) (a1 : (List Int)) (a2 : Int) : Option Int :=
  (halterref04_Refs.l0 a0 a1 a2 FUEL (0 : Int) (0 : Int)).bind fun t7 =>
  some t7
def halterref04_Refs.R (r : Int) : Tm := .v (.one (.sc (.int .i64 r)))
theorem halterref04_Refs.fun_ {a0 : Int} {a1 : (List Int)} {a2 : Int} {r : Int} (h : halterref04_Refs.f a0 a1 a2 = some r) : Fun cfg 18 [.agg [.c (.sc (.int .i64 a0)), .c (.fs (.int .i64) a1 false)], .one (.sc (.int .i64 a2))] [] (halterref04_Refs.R r) [] := by
  unfold halterref04_Refs.f at h
  refine fun_of_run cfg_ok (f := 18) (fn := Tryd.f18) Tryd.func18 rfl (by kernel_rfl) (rs := [.tmp 4]) rfl (nt := 24) rfl (l := fin) (k := (.adj [] (.adj [] (.adj [] (.adj [] (.adj [.keep [1, 2, 5, 6]] (.sub (Int) (fun _ => (.exit 0)) (fun t7 => ⟨[.any, .any, .any, .any, .any, .v (.one (.sc (.int .i64 t7))), .any, .any, .any, .any, .any, .any, .any, .any, .any, .any, .any, .any, .any, .any, .any, .any, .any, .any], [.ex false [.c (.sc (.int .i64 a0)), .c (.fs (.int .i64) a1 false)] 40], 0⟩) (fun t7 => (.adj [] (.adj [] (.adj [.drop 0] .nil))))))))))) (to_goal (q := (True ∧ (True ∧ (True ∧ (True ∧ (((True) ∧ True) ∧ (∃ t7 : Int, Trip cfg (.loop (cpath (Tryd.f18.body.getD .skip) [1, 1, 0, 1, 0, 0])) ⟨[.any, .v (.one (.sc (.int .i64 a2))), .v (.one (.ptr 0 ⟨0, 0, 0, 0⟩)), .any, .any, .v (.one (.sc (.int .i64 (0 : Int)))), .v (.one (.sc (.int .i64 (0 : Int)))), .any, .any, .any, .any, .any, .any, .any, .any, .any, .any, .any, .any, .any, .any, .any, .any, .any], [.ex false [.c (.sc (.int .i64 a0)), .c (.fs (.int .i64) a1 false)] 40], 0⟩ (fun e s => e = (.exit 0) ∧ s = ⟨[.any, .any, .any, .any, .any, .v (.one (.sc (.int .i64 t7))), .any, .any, .any, .any, .any, .any, .any, .any, .any, .any, .any, .any, .any, .any, .any, .any, .any, .any], [.ex false [.c (.sc (.int .i64 a0)), .c (.fs (.int .i64) a1 false)] 40], 0⟩) ∧ (True ∧ (True ∧ ((True) ∧ ((True) ∧ True) ∧ (.v (.one (.sc (.int .i64 t7))) : Tm) = halterref04_Refs.R r ∧ ([] : List Box) = [])))))))))) (by kernel_rfl) ?_)
  refine ⟨trivial, ?_⟩
  refine ⟨trivial, ?_⟩
  refine ⟨trivial, ?_⟩
  refine ⟨trivial, ?_⟩
  obtain ⟨t7, ht7, h⟩ := of_bind h
  refine ⟨⟨trivial, trivial⟩, t7, Trip.loop FUEL (halterref04_Refs.l0_ok a0 a1 a2 FUEL (0 : Int) (0 : Int) t7 ht7), ?_⟩
  refine ⟨trivial, ?_⟩
  refine ⟨trivial, ?_⟩
  obtain rfl := Option.some.inj h
  exact ⟨trivial, ⟨trivial, trivial⟩, rfl, rfl⟩
/-! halter/halterref04.Alloc -/
def halterref04_Alloc.l0 (a0 : Int) (a1 : (List Int)) : Nat → Int → Option ((Unit) ⊕ ((List Int) × (List Int) × Int))
  | 0, _ => none
  | n + 1, x1 =>
    if x1 < a0 then
      (halterref04_Refs.f a0 a1 x1).bind fun t11 =>
      if t11 = (0 : Int) then
        if (0 = 0 ∧ 1 = 1) ∧ 0 < 1 ∧ (((List.length (List.take (Int.toNat (((List.length a1) : Nat) : Int)) a1)) + 1) * 8 ≤ 140737488355328 ∧ (List.length (List.take (Int.toNat (((List.length a1) : Nat) : Int)) a1)) + 1 ≤ 9223372036854775807) then
          some (.inr (((List.take (Int.toNat (((List.length a1) : Nat) : Int)) a1) ++ [x1]), ((List.take (Int.toNat (((List.length a1) : Nat) : Int)) a1) ++ [x1]), x1))
        else none
      else
        halterref04_Alloc.l0 a0 a1 n (IntKind.wrap .i64 (x1 + (1 : Int)))
    else
      some (.inl ())
def halterref04_Alloc.l0_S (a0 : Int) (a1 : (List Int)) (x1 : Int) : St := ⟨[.any, .v (.one (.ptr 0 ⟨0, 0, 0, 0⟩)), .v (.one (.ptr 1 ⟨0, 0, 0, 0⟩)), .any, .any, .v (.one (.sc (.int .i64 x1))), .any, .any, .any, .any, .any, .any, .any, .any, .any, .any, .any, .any, .any, .any, .any, .any, .any, .any, .any, .any, .any, .any, .any, .any, .any, .any], [.ex false [.c (.sc (.int .i64 a0)), .c (.fs (.int .i64) a1 false)] 40, .ex false [.c (.sc (.int .i64 (0 : Int))), .c (.sc (.slice none 0 0))] 40], 0⟩
def halterref04_Alloc.l0_Q (a0 : Int) (a1 : (List Int)) : (Unit) ⊕ ((List Int) × (List Int) × Int) → Exit → St → Prop
  | .inl t => fun e s => e = (.exit 0) ∧ s = ⟨[.any, .v (.one (.ptr 0 ⟨0, 0, 0, 0⟩)), .v (.one (.ptr 1 ⟨0, 0, 0, 0⟩)), .any, .any, .any, .any, .any, .any, .any, .any, .any, .any, .any, .any, .any, .any, .any, .any, .any, .any, .any, .any, .any, .any, .any, .any, .any, .any, .any, .any, .any], [.ex false [.c (.sc (.int .i64 a0)), .c (.fs (.int .i64) a1 false)] 40, .ex false [.c (.sc (.int .i64 (0 : Int))), .c (.sc (.slice none 0 0))] 40], 0⟩
  | .inr t => fun e s => e = .ret ∧ s = ⟨[.any, .any, .v (.one (.ptr 1 ⟨0, 0, 0, 0⟩)), .v (.one (.sc (.int .i64 t.2.2))), .v (.one (.sc (.int .i64 (0 : Int)))), .any, .any, .any, .any, .any, .any, .any, .any, .any, .any, .any, .any, .any, .any, .any, .any, .any, .any, .any, .any, .any, .any, .any, .any, .any, .any, .any], [.ex false [.c (.sc (.int .i64 a0)), .c (.fs (.int .i64) t.1 false)] 40, .ex false [.c (.sc (.int .i64 a0)), .c (.fs (.int .i64) t.2.1 false)] 40], 0⟩
theorem halterref04_Alloc.l0_ok (a0 : Int) (a1 : (List Int)) : ∀ (n : Nat) (x1 : Int) (r : (Unit) ⊕ ((List Int) × (List Int) × Int)), halterref04_Alloc.l0 a0 a1 n x1 = some r → TripN cfg (cpath (Tryd.f15.body.getD .skip) [1, 0, 1, 0, 0]) n (halterref04_Alloc.l0_S a0 a1 x1) (halterref04_Alloc.l0_Q a0 a1 r) := by
  intro n
  induction n with
  | zero => intro x1 r h; cases h
  | succ n ih =>
    intro x1 r h
    rw [halterref04_Alloc.l0] at h
    refine TripN.of_run cfg_ok (k := (.br (.call true [] (Int) (fun t11 => halterref04_Refs.R t11) (fun t11 => (.br (.d (.b true) (.adj [] (.adj [.keep [2, 3, 4], .coB 0 true [], .coB 1 true [], .drop 2] .nil))) (.adj [] (.adj [] (.adj [.keep [1, 2, 5], .drop 2] .nil)))))) (.adj [.keep [1, 2], .drop 2] .nil))) (to_goal (q := (True) ∧ (True) ∧ (((decide (x1 < a0)) = true → (True) ∧ (∃ t11 : Int, (Fun cfg 18 [.agg [.c (.sc (.int .i64 a0)), .c (.fs (.int .i64) a1 false)], .one (.sc (.int .i64 x1))] [] (halterref04_Refs.R t11) [] ∧ True) ∧ (True) ∧ (((t11 == (0 : Int)) = true → (True) ∧ (True) ∧ (True) ∧ (True) ∧ (True) ∧ (((some (((List.length a1) : Nat) : Int) : Option Int) = some (((List.length a1) : Nat) : Int)) ∧ (0 ≤ (((List.length a1) : Nat) : Int)) ∧ ((((List.length a1) : Nat) : Int) ≤ (((List.length a1) : Nat) : Int)) ∧ (True)) ∧ ((0 = 0 ∧ 1 = 1) ∧ 0 < 1 ∧ (((List.length (List.take (Int.toNat (((List.length a1) : Nat) : Int)) a1)) + 1) * 8 ≤ 140737488355328 ∧ (List.length (List.take (Int.toNat (((List.length a1) : Nat) : Int)) a1)) + 1 ≤ 9223372036854775807)) ∧ (True) ∧ (True ∧ (True) ∧ (True) ∧ (((True) ∧ (((0 = 0 ∧ (List.length ((List.take (Int.toNat (((List.length a1) : Nat) : Int)) a1) ++ [x1])) = (List.length ((List.take (Int.toNat (((List.length a1) : Nat) : Int)) a1) ++ [x1])))) ∧ True) ∧ (((0 = 0 ∧ (List.length ((List.take (Int.toNat (((List.length a1) : Nat) : Int)) a1) ++ [x1])) = (List.length ((List.take (Int.toNat (((List.length a1) : Nat) : Int)) a1) ++ [x1])))) ∧ True) ∧ (True) ∧ True) ∧ halterref04_Alloc.l0_Q a0 a1 r .ret ⟨[.any, .any, .v (.one (.ptr 1 ⟨0, 0, 0, 0⟩)), .v (.one (.sc (.int .i64 x1))), .v (.one (.sc (.int .i64 (0 : Int)))), .any, .any, .any, .any, .any, .any, .any, .any, .any, .any, .any, .any, .any, .any, .any, .any, .any, .any, .any, .any, .any, .any, .any, .any, .any, .any, .any], [.ex false [.c (.sc (.int .i64 a0)), .c (.fs (.int .i64) ((List.take (Int.toNat (((List.length a1) : Nat) : Int)) a1) ++ [x1]) false)] 40, .ex false [.c (.sc (.int .i64 a0)), .c (.fs (.int .i64) ((List.take (Int.toNat (((List.length a1) : Nat) : Int)) a1) ++ [x1]) false)] 40], 0⟩))) ∧ ((t11 == (0 : Int)) = false → (True ∧ (True ∧ (True) ∧ (((True) ∧ (True) ∧ True) ∧ TripN cfg (cpath (Tryd.f15.body.getD .skip) [1, 0, 1, 0, 0]) n (halterref04_Alloc.l0_S a0 a1 (IntKind.wrap .i64 (x1 + (1 : Int)))) (halterref04_Alloc.l0_Q a0 a1 r)))))))) ∧ ((decide (x1 < a0)) = false → (((True) ∧ (True) ∧ True) ∧ halterref04_Alloc.l0_Q a0 a1 r (.exit 0) ⟨[.any, .v (.one (.ptr 0 ⟨0, 0, 0, 0⟩)), .v (.one (.ptr 1 ⟨0, 0, 0, 0⟩)), .any, .any, .any, .any, .any, .any, .any, .any, .any, .any, .any, .any, .any, .any, .any, .any, .any, .any, .any, .any, .any, .any, .any, .any, .any, .any, .any, .any, .any], [.ex false [.c (.sc (.int .i64 a0)), .c (.fs (.int .i64) a1 false)] 40, .ex false [.c (.sc (.int .i64 (0 : Int))), .c (.sc (.slice none 0 0))] 40], 0⟩)))) (by kernel_rfl) ?_)
    refine ⟨trivial, ?_⟩
    refine ⟨trivial, ?_⟩
    refine ⟨fun b10 => ?_, fun b10 => ?_⟩
    · rw [if_pos (of_decide_eq_true b10)] at h
      refine ⟨trivial, ?_⟩
      obtain ⟨t11, ht11, h⟩ := of_bind h
      refine ⟨t11, ⟨halterref04_Refs.fun_ ht11, trivial⟩, ?_⟩
      refine ⟨trivial, ?_⟩
      refine ⟨fun b12 => ?_, fun b12 => ?_⟩
      · rw [if_pos (beq_t b12)] at h
        refine ⟨trivial, ?_⟩
        refine ⟨trivial, ?_⟩
        refine ⟨trivial, ?_⟩
        refine ⟨trivial, ?_⟩
        refine ⟨trivial, ?_⟩
        refine ⟨⟨rfl, (Int.natCast_nonneg _), (Int.le_refl _), trivial⟩, ?_⟩
        obtain ⟨g13, h⟩ := of_guard h
        refine ⟨g13, ?_⟩
        refine ⟨trivial, ?_⟩
        refine ⟨trivial, ?_⟩
        refine ⟨trivial, ?_⟩
        refine ⟨trivial, ?_⟩
        obtain rfl := Option.some.inj h
        exact ⟨⟨trivial, ⟨⟨rfl, rfl⟩, trivial⟩, ⟨⟨rfl, rfl⟩, trivial⟩, trivial, trivial⟩, rfl, rfl⟩
      · rw [if_neg (beq_f b12)] at h
        refine ⟨trivial, ?_⟩
        refine ⟨trivial, ?_⟩
        refine ⟨trivial, ?_⟩
        exact ⟨⟨trivial, trivial, trivial⟩, ih (IntKind.wrap .i64 (x1 + (1 : Int))) r h⟩
    · rw [if_neg (of_decide_eq_false b10)] at h
      obtain rfl := Option.some.inj h
      exact ⟨⟨trivial, trivial, trivial⟩, rfl, rfl⟩
def halterref04_Alloc.f (a0 : Int) (a1 : (List Int)) : Option (Int × (List Int) × Int × Int) :=
  (halterref04_Alloc.l0 a0 a1 FUEL (0 : Int)).bind fun t9 =>
  match t9 with
  | .inl t17 =>
    some (a0, a1, (0 : Int), (12 : Int))
  | .inr t18 =>
    some (a0, t18.2.1, t18.2.2, (0 : Int))
def halterref04_Alloc.R (r : Int × (List Int) × Int × Int) : Tm := .tup [.agg [.c (.sc (.int .i64 r.1)), .c (.fs (.int .i64) r.2.1 false)], .one (.sc (.int .i64 r.2.2.1)), .one (.sc (.int .i64 r.2.2.2))]
theorem halterref04_Alloc.fun_ {a0 : Int} {a1 : (List Int)} {r : Int × (List Int) × Int × Int} (h : halterref04_Alloc.f a0 a1 = some r) : Fun cfg 15 [.agg [.c (.sc (.int .i64 a0)), .c (.fs (.int .i64) a1 false)]] [] (halterref04_Alloc.R r) [] := by
  unfold halterref04_Alloc.f at h
  refine fun_of_run cfg_ok (f := 15) (fn := Tryd.f15) Tryd.func15 rfl (by kernel_rfl) (rs := [.cell 2 40, .tmp 3, .tmp 4]) rfl (nt := 32) rfl (l := fin) (k := (.adj [] (.adj [] (.adj [] (.adj [.keep [1, 2, 5]] (.alt (.sub (Unit) (fun _ => (.exit 0)) (fun t17 => ⟨[.any, .v (.one (.ptr 0 ⟨0, 0, 0, 0⟩)), .v (.one (.ptr 1 ⟨0, 0, 0, 0⟩)), .any, .any, .any, .any, .any, .any, .any, .any, .any, .any, .any, .any, .any, .any, .any, .any, .any, .any, .any, .any, .any, .any, .any, .any, .any, .any, .any, .any, .any], [.ex false [.c (.sc (.int .i64 a0)), .c (.fs (.int .i64) a1 false)] 40, .ex false [.c (.sc (.int .i64 (0 : Int))), .c (.sc (.slice none 0 0))] 40], 0⟩) (fun t17 => (.adj [] (.adj [] (.adj [.drop 0] .nil))))) (.sub ((List Int) × (List Int) × Int) (fun _ => .ret) (fun t18 => ⟨[.any, .any, .v (.one (.ptr 1 ⟨0, 0, 0, 0⟩)), .v (.one (.sc (.int .i64 (z2 t18)))), .v (.one (.sc (.int .i64 (0 : Int)))), .any, .any, .any, .any, .any, .any, .any, .any, .any, .any, .any, .any, .any, .any, .any, .any, .any, .any, .any, .any, .any, .any, .any, .any, .any, .any, .any], [.ex false [.c (.sc (.int .i64 a0)), .c (.fs (.int .i64) t18.1 false)] 40, .ex false [.c (.sc (.int .i64 a0)), .c (.fs (.int .i64) t18.2.1 false)] 40], 0⟩) (fun t18 => (.adj [.drop 0] .nil))))))))) (to_goal (q := (True ∧ (True ∧ (True ∧ (((True) ∧ True) ∧ ((∃ t17 : Unit, Trip cfg (.loop (cpath (Tryd.f15.body.getD .skip) [1, 0, 1, 0, 0])) ⟨[.any, .v (.one (.ptr 0 ⟨0, 0, 0, 0⟩)), .v (.one (.ptr 1 ⟨0, 0, 0, 0⟩)), .any, .any, .v (.one (.sc (.int .i64 (0 : Int)))), .any, .any, .any, .any, .any, .any, .any, .any, .any, .any, .any, .any, .any, .any, .any, .any, .any, .any, .any, .any, .any, .any, .any, .any, .any, .any], [.ex false [.c (.sc (.int .i64 a0)), .c (.fs (.int .i64) a1 false)] 40, .ex false [.c (.sc (.int .i64 (0 : Int))), .c (.sc (.slice none 0 0))] 40], 0⟩ (fun e s => e = (.exit 0) ∧ s = ⟨[.any, .v (.one (.ptr 0 ⟨0, 0, 0, 0⟩)), .v (.one (.ptr 1 ⟨0, 0, 0, 0⟩)), .any, .any, .any, .any, .any, .any, .any, .any, .any, .any, .any, .any, .any, .any, .any, .any, .any, .any, .any, .any, .any, .any, .any, .any, .any, .any, .any, .any, .any], [.ex false [.c (.sc (.int .i64 a0)), .c (.fs (.int .i64) a1 false)] 40, .ex false [.c (.sc (.int .i64 (0 : Int))), .c (.sc (.slice none 0 0))] 40], 0⟩) ∧ (True ∧ (True) ∧ (True) ∧ (True ∧ (((True) ∧ True) ∧ ((True) ∧ True) ∧ (.tup [.agg [.c (.sc (.int .i64 a0)), .c (.fs (.int .i64) a1 false)], .one (.sc (.int .i64 (0 : Int))), .one (.sc (.int .i64 (12 : Int)))] : Tm) = halterref04_Alloc.R r ∧ ([] : List Box) = [])))) ∨ (∃ t18 : (List Int) × (List Int) × Int, Trip cfg (.loop (cpath (Tryd.f15.body.getD .skip) [1, 0, 1, 0, 0])) ⟨[.any, .v (.one (.ptr 0 ⟨0, 0, 0, 0⟩)), .v (.one (.ptr 1 ⟨0, 0, 0, 0⟩)), .any, .any, .v (.one (.sc (.int .i64 (0 : Int)))), .any, .any, .any, .any, .any, .any, .any, .any, .any, .any, .any, .any, .any, .any, .any, .any, .any, .any, .any, .any, .any, .any, .any, .any, .any, .any], [.ex false [.c (.sc (.int .i64 a0)), .c (.fs (.int .i64) a1 false)] 40, .ex false [.c (.sc (.int .i64 (0 : Int))), .c (.sc (.slice none 0 0))] 40], 0⟩ (fun e s => e = .ret ∧ s = ⟨[.any, .any, .v (.one (.ptr 1 ⟨0, 0, 0, 0⟩)), .v (.one (.sc (.int .i64 (z2 t18)))), .v (.one (.sc (.int .i64 (0 : Int)))), .any, .any, .any, .any, .any, .any, .any, .any, .any, .any, .any, .any, .any, .any, .any, .any, .any, .any, .any, .any, .any, .any, .any, .any, .any, .any, .any], [.ex false [.c (.sc (.int .i64 a0)), .c (.fs (.int .i64) t18.1 false)] 40, .ex false [.c (.sc (.int .i64 a0)), .c (.fs (.int .i64) t18.2.1 false)] 40], 0⟩) ∧ (((True) ∧ True) ∧ ((True) ∧ True) ∧ (.tup [.agg [.c (.sc (.int .i64 a0)), .c (.fs (.int .i64) t18.2.1 false)], .one (.sc (.int .i64 (z2 t18))), .one (.sc (.int .i64 (0 : Int)))] : Tm) = halterref04_Alloc.R r ∧ ([] : List Box) = [])))))))) (by kernel_rfl) ?_)
  refine ⟨trivial, ?_⟩
  refine ⟨trivial, ?_⟩
  refine ⟨trivial, ?_⟩
  obtain ⟨t9, ht9, h⟩ := of_bind h
  refine ⟨⟨trivial, trivial⟩, ?_⟩
  rcases t9 with t17 | t18
  · dsimp only at h
    left
    refine ⟨t17, Trip.loop FUEL (halterref04_Alloc.l0_ok a0 a1 FUEL (0 : Int) (.inl t17) ht9), ?_⟩
    refine ⟨trivial, ?_⟩
    refine ⟨trivial, ?_⟩
    refine ⟨trivial, ?_⟩
    refine ⟨trivial, ?_⟩
    obtain rfl := Option.some.inj h
    exact ⟨⟨trivial, trivial⟩, ⟨trivial, trivial⟩, rfl, rfl⟩
  · dsimp only at h
    right
    refine ⟨t18, Trip.loop FUEL (halterref04_Alloc.l0_ok a0 a1 FUEL (0 : Int) (.inr t18) ht9), ?_⟩
    obtain rfl := Option.some.inj h
    exact ⟨⟨trivial, trivial⟩, ⟨trivial, trivial⟩, rfl, rfl⟩
/-! halter/halterref04.Ref -/
def halterref04_Ref.f (a0 : Int) (a1 : (List Int)) (a2 : Int) : Option (Int × (List Int) × Int) :=
  (halterref04_Refs.f a0 a1 a2).bind fun t1 =>
  if t1 = (0 : Int) then
    some (a0, a1, (22 : Int))
  else
    if (0 = 0 ∧ 1 = 1) ∧ 0 < 1 ∧ (((List.length (List.take (Int.toNat (((List.length a1) : Nat) : Int)) a1)) + 1) * 8 ≤ 140737488355328 ∧ (List.length (List.take (Int.toNat (((List.length a1) : Nat) : Int)) a1)) + 1 ≤ 9223372036854775807) then
      some (a0, ((List.take (Int.toNat (((List.length a1) : Nat) : Int)) a1) ++ [a2]), (0 : Int))
    else none
def halterref04_Ref.R (r : Int × (List Int) × Int) : Tm := .tup [.agg [.c (.sc (.int .i64 r.1)), .c (.fs (.int .i64) r.2.1 false)], .one (.sc (.int .i64 r.2.2))]
theorem halterref04_Ref.fun_ {a0 : Int} {a1 : (List Int)} {a2 : Int} {r : Int × (List Int) × Int} (h : halterref04_Ref.f a0 a1 a2 = some r) : Fun cfg 16 [.agg [.c (.sc (.int .i64 a0)), .c (.fs (.int .i64) a1 false)], .one (.sc (.int .i64 a2))] [] (halterref04_Ref.R r) [] := by
  unfold halterref04_Ref.f at h
  refine fun_of_run cfg_ok (f := 16) (fn := Tryd.f16) Tryd.func16 rfl (by kernel_rfl) (rs := [.cell 4 40, .tmp 5]) rfl (nt := 25) rfl (l := fin) (k := (.call true [] (Int) (fun t1 => halterref04_Refs.R t1) (fun t1 => (.br (.adj [] (.adj [] (.adj [.drop 0] .nil))) (.d (.b true) (.adj [] (.adj [] (.adj [.co 0 true [], .drop 0] .nil)))))))) (to_goal (q := (True) ∧ (∃ t1 : Int, (Fun cfg 18 [.agg [.c (.sc (.int .i64 a0)), .c (.fs (.int .i64) a1 false)], .one (.sc (.int .i64 a2))] [] (halterref04_Refs.R t1) [] ∧ True) ∧ (True) ∧ (((t1 == (0 : Int)) = true → (True ∧ (True) ∧ (True) ∧ (True ∧ (((True) ∧ True) ∧ ((True) ∧ True) ∧ (.tup [.agg [.c (.sc (.int .i64 a0)), .c (.fs (.int .i64) a1 false)], .one (.sc (.int .i64 (22 : Int)))] : Tm) = halterref04_Ref.R r ∧ ([] : List Box) = [])))) ∧ ((t1 == (0 : Int)) = false → (True) ∧ (True) ∧ (True) ∧ (True) ∧ (True) ∧ (((some (((List.length a1) : Nat) : Int) : Option Int) = some (((List.length a1) : Nat) : Int)) ∧ (0 ≤ (((List.length a1) : Nat) : Int)) ∧ ((((List.length a1) : Nat) : Int) ≤ (((List.length a1) : Nat) : Int)) ∧ (True)) ∧ ((0 = 0 ∧ 1 = 1) ∧ 0 < 1 ∧ (((List.length (List.take (Int.toNat (((List.length a1) : Nat) : Int)) a1)) + 1) * 8 ≤ 140737488355328 ∧ (List.length (List.take (Int.toNat (((List.length a1) : Nat) : Int)) a1)) + 1 ≤ 9223372036854775807)) ∧ (True) ∧ (True ∧ (True) ∧ (True) ∧ (True ∧ (((True) ∧ True) ∧ ((((0 = 0 ∧ (List.length ((List.take (Int.toNat (((List.length a1) : Nat) : Int)) a1) ++ [a2])) = (List.length ((List.take (Int.toNat (((List.length a1) : Nat) : Int)) a1) ++ [a2])))) ∧ True) ∧ (True) ∧ True) ∧ (.tup [.agg [.c (.sc (.int .i64 a0)), .c (.fs (.int .i64) ((List.take (Int.toNat (((List.length a1) : Nat) : Int)) a1) ++ [a2]) false)], .one (.sc (.int .i64 (0 : Int)))] : Tm) = halterref04_Ref.R r ∧ ([] : List Box) = []))))))) (by kernel_rfl) ?_)
  refine ⟨trivial, ?_⟩
  obtain ⟨t1, ht1, h⟩ := of_bind h
  refine ⟨t1, ⟨halterref04_Refs.fun_ ht1, trivial⟩, ?_⟩
  refine ⟨trivial, ?_⟩
  refine ⟨fun b2 => ?_, fun b2 => ?_⟩
  · rw [if_pos (beq_t b2)] at h
    refine ⟨trivial, ?_⟩
    refine ⟨trivial, ?_⟩
    refine ⟨trivial, ?_⟩
    refine ⟨trivial, ?_⟩
    obtain rfl := Option.some.inj h
    exact ⟨⟨trivial, trivial⟩, ⟨trivial, trivial⟩, rfl, rfl⟩
  · rw [if_neg (beq_f b2)] at h
    refine ⟨trivial, ?_⟩
    refine ⟨trivial, ?_⟩
    refine ⟨trivial, ?_⟩
    refine ⟨trivial, ?_⟩
    refine ⟨trivial, ?_⟩
    refine ⟨⟨rfl, (Int.natCast_nonneg _), (Int.le_refl _), trivial⟩, ?_⟩
    obtain ⟨g3, h⟩ := of_guard h
    refine ⟨g3, ?_⟩
    refine ⟨trivial, ?_⟩
    refine ⟨trivial, ?_⟩
    refine ⟨trivial, ?_⟩
    refine ⟨trivial, ?_⟩
    refine ⟨trivial, ?_⟩
    obtain rfl := Option.some.inj h
    exact ⟨⟨trivial, trivial⟩, ⟨⟨⟨rfl, rfl⟩, trivial⟩, trivial, trivial⟩, rfl, rfl⟩
/-! (*halter/frames.Frames).Unref -/
def frames_Frames_Unref_v1.c0 (a3 : (List Int)) (a0 : Int) : Bool := ((List.getD (List.set a3 (0 + (Int.toNat a0)) (IntKind.wrap .i64 ((List.getD a3 (0 + (Int.toNat a0)) (0 : Int)) - (1 : Int)))) (0 + (Int.toNat a0)) (0 : Int)) == (0 : Int))
def frames_Frames_Unref_v1.f (a0 : Int) (a1 : Nat) (a2 : Nat) (a3 : (List Int)) : Option (Bool × (Option Int) × (List Int)) :=
  (frames_Frames_taken_v1.f a0 a1 a2 a3).bind fun t1 =>
  if ¬ (t1 = true) then
    some (false, (some (22 : Int)), a3)
  else
    if 0 ≤ a0 ∧ a0 < ((a1 : Nat) : Int) then
      if (0 + (Int.toNat a0)) < a2 then
        if 0 ≤ a0 ∧ a0 < ((a1 : Nat) : Int) then
          if (0 + (Int.toNat a0)) < a2 then
            if 0 ≤ a0 ∧ a0 < ((a1 : Nat) : Int) then
              if (0 + (Int.toNat a0)) < a2 then
                some (((List.getD (List.set a3 (0 + (Int.toNat a0)) (IntKind.wrap .i64 ((List.getD a3 (0 + (Int.toNat a0)) (0 : Int)) - (1 : Int)))) (0 + (Int.toNat a0)) (0 : Int)) == (0 : Int)), none, (List.set a3 (0 + (Int.toNat a0)) (IntKind.wrap .i64 ((List.getD a3 (0 + (Int.toNat a0)) (0 : Int)) - (1 : Int)))))
              else none
            else none
          else none
        else none
      else none
    else none
def frames_Frames_Unref_v1.R (r : Bool × (Option Int) × (List Int)) : Tm := .tup [.one (.sc (.bool r.1)), .one (.err r.2.1)]
def frames_Frames_Unref_v1.B (a0 : Int) (a1 : Nat) (a2 : Nat) (a3 : (List Int)) (r : Bool × (Option Int) × (List Int)) : List Box := [.ex false [.c (.os 1 0 0 1 a1 none)] 58, .ex false [.row a2 (.int .i64) r.2.2] 3]
theorem frames_Frames_Unref_v1.fun_ {a0 : Int} {a1 : Nat} {a2 : Nat} {a3 : (List Int)} {r : Bool × (Option Int) × (List Int)} (h : frames_Frames_Unref_v1.f a0 a1 a2 a3 = some r) : Fun cfg 7 [.one (.ptr 0 ⟨0, 0, 0, 0⟩), .one (.sc (.int .i64 a0))] [.ex false [.c (.os 1 0 0 1 a1 none)] 58, .ex false [.row a2 (.int .i64) a3] 3] (frames_Frames_Unref_v1.R r) (frames_Frames_Unref_v1.B a0 a1 a2 a3 r) := by
  unfold frames_Frames_Unref_v1.f at h
  refine fun_of_run cfg_ok (f := 7) (fn := Tryd.f7) Tryd.func7 rfl (by kernel_rfl) (rs := [.tmp 4, .tmp 5]) rfl (nt := 28) rfl (l := fin) (k := (.callR true [] [0, 1] (Bool) (fun t1 => (frames_Frames_taken_v1.R t1)) (fun t1 => (frames_Frames_taken_v1.B a0 a1 a2 a3 t1)) (fun t1 => (.br (.adj [] (.adj [] (.adj [] .nil))) (.adj [] (.adj [] (.adj [] (.adj [] (.adj [] .nil))))))))) (to_goal (q := (∃ t1 : Bool, (Fun cfg 22 [.one (.ptr 0 ⟨0, 0, 0, 0⟩), .one (.sc (.int .i64 a0))] [.ex false [.c (.os 1 0 0 1 a1 none)] 58, .ex false [.row a2 (.int .i64) a3] 3] (frames_Frames_taken_v1.R t1) (frames_Frames_taken_v1.B a0 a1 a2 a3 t1) ∧ True) ∧ (((!t1) = true → (True ∧ (True ∧ ((True) ∧ (True) ∧ (.tup [.one (.sc (.bool false)), .one (.err (some (22 : Int)))] : Tm) = frames_Frames_Unref_v1.R r ∧ ([.ex false [.c (.os 1 0 0 1 a1 none)] 58, .ex false [.row a2 (.int .i64) a3] 3] : List Box) = frames_Frames_Unref_v1.B a0 a1 a2 a3 r)))) ∧ ((!t1) = false → (True ∧ (True ∧ (True) ∧ (0 ≤ a0 ∧ a0 < ((a1 : Nat) : Int)) ∧ ((0 + (Int.toNat a0)) < a2) ∧ (True) ∧ (0 ≤ a0 ∧ a0 < ((a1 : Nat) : Int)) ∧ ((0 + (Int.toNat a0)) < a2) ∧ (True ∧ (True) ∧ (0 ≤ a0 ∧ a0 < ((a1 : Nat) : Int)) ∧ ((0 + (Int.toNat a0)) < a2) ∧ (True) ∧ (True ∧ ((True) ∧ (True) ∧ (.tup [.one (.sc (.bool (frames_Frames_Unref_v1.c0 a3 a0))), .one (.err none)] : Tm) = frames_Frames_Unref_v1.R r ∧ ([.ex false [.c (.os 1 0 0 1 a1 none)] 58, .ex false [.row a2 (.int .i64) (List.set a3 (0 + (Int.toNat a0)) (IntKind.wrap .i64 ((List.getD a3 (0 + (Int.toNat a0)) (0 : Int)) - (1 : Int))))] 3] : List Box) = frames_Frames_Unref_v1.B a0 a1 a2 a3 r))))))))) (by kernel_rfl) ?_)
  obtain ⟨t1, ht1, h⟩ := of_bind h
  refine ⟨t1, ⟨frames_Frames_taken_v1.fun_ ht1, trivial⟩, ?_⟩
  refine ⟨fun b2 => ?_, fun b2 => ?_⟩
  · rw [if_pos (ff (not_t b2))] at h
    refine ⟨trivial, ?_⟩
    refine ⟨trivial, ?_⟩
    obtain rfl := Option.some.inj h
    exact ⟨trivial, trivial, rfl, rfl⟩
  · rw [if_neg (not_not_intro (not_f b2))] at h
    refine ⟨trivial, ?_⟩
    refine ⟨trivial, ?_⟩
    refine ⟨trivial, ?_⟩
    obtain ⟨g8, h⟩ := of_guard h
    refine ⟨g8, ?_⟩
    obtain ⟨g7, h⟩ := of_guard h
    refine ⟨g7, ?_⟩
    refine ⟨trivial, ?_⟩
    obtain ⟨g6, h⟩ := of_guard h
    refine ⟨g6, ?_⟩
    obtain ⟨g5, h⟩ := of_guard h
    refine ⟨g5, ?_⟩
    refine ⟨trivial, ?_⟩
    refine ⟨trivial, ?_⟩
    obtain ⟨g4, h⟩ := of_guard h
    refine ⟨g4, ?_⟩
    obtain ⟨g3, h⟩ := of_guard h
    refine ⟨g3, ?_⟩
    refine ⟨trivial, ?_⟩
    refine ⟨trivial, ?_⟩
    obtain rfl := Option.some.inj h
    exact ⟨trivial, trivial, rfl, rfl⟩
/-! halter/halterref04.Unref -/
def halterref04_Unref.l0 (a0 : Int) (a1 : (List Int)) (a2 : Int) : Nat → Int → Option ((Unit) ⊕ ((List Int) × (List Int) × Bool))
  | 0, _ => none
  | n + 1, x1 =>
    if x1 < (((List.length a1) : Nat) : Int) then
      if 0 ≤ x1 ∧ x1 < (((List.length a1) : Nat) : Int) then
        if (List.getD a1 (Int.toNat x1) (0 : Int)) = a2 then
          if 0 ≤ x1 ∧ x1 ≤ (((List.length a1) : Nat) : Int) then
            if True ∧ ((List.length (List.take (Int.toNat x1) a1)) * 8 ≤ 140737488355328 ∧ (List.length (List.take (Int.toNat x1) a1)) ≤ 9223372036854775807) then
              if (True) ∧ ((0 ≤ (IntKind.wrap .i64 (x1 + (1 : Int))) ∧ (IntKind.wrap .i64 (x1 + (1 : Int))) ≤ (((List.length a1) : Nat) : Int))) then
                if True ∧ 0 = 0 ∧ (List.length (List.take (Int.toNat x1) a1)) = (List.length (List.take (Int.toNat x1) a1)) ∧ (((List.length (List.take (Int.toNat x1) a1)) + (List.length (List.drop (Int.toNat (IntKind.wrap .i64 (x1 + (1 : Int)))) a1))) * 8 ≤ 140737488355328 ∧ (List.length (List.take (Int.toNat x1) a1)) + (List.length (List.drop (Int.toNat (IntKind.wrap .i64 (x1 + (1 : Int)))) a1)) ≤ 9223372036854775807) then
                  (halterref04_Refs.f a0 ((List.take (Int.toNat x1) a1) ++ (List.drop (Int.toNat (IntKind.wrap .i64 (x1 + (1 : Int)))) a1)) a2).bind fun t16 =>
                  some (.inr (((List.take (Int.toNat x1) a1) ++ (List.drop (Int.toNat (IntKind.wrap .i64 (x1 + (1 : Int)))) a1)), ((List.take (Int.toNat x1) a1) ++ (List.drop (Int.toNat (IntKind.wrap .i64 (x1 + (1 : Int)))) a1)), (t16 == (0 : Int))))
                else none
              else none
            else none
          else none
        else
          halterref04_Unref.l0 a0 a1 a2 n (IntKind.wrap .i64 (x1 + (1 : Int)))
      else none
    else
      some (.inl ())
def halterref04_Unref.l0_S (a0 : Int) (a1 : (List Int)) (a2 : Int) (x1 : Int) : St := ⟨[.any, .v (.one (.sc (.int .i64 a2))), .v (.one (.ptr 0 ⟨0, 0, 0, 0⟩)), .any, .v (.one (.ptr 1 ⟨0, 0, 0, 0⟩)), .any, .any, .v (.one (.sc (.int .i64 x1))), .any, .any, .any, .any, .any, .any, .any, .any, .any, .any, .any, .any, .any, .any, .any, .any, .any, .any, .any, .any, .any, .any, .any, .any, .any, .any, .any, .any, .any, .any, .any, .any, .any, .any, .any], [.ex false [.c (.sc (.int .i64 a0)), .c (.fs (.int .i64) a1 false)] 40, .ex false [.c (.sc (.int .i64 (0 : Int))), .c (.sc (.slice none 0 0))] 40], 0⟩
def halterref04_Unref.l0_Q (a0 : Int) (a1 : (List Int)) (a2 : Int) : (Unit) ⊕ ((List Int) × (List Int) × Bool) → Exit → St → Prop
  | .inl t => fun e s => e = (.exit 0) ∧ s = ⟨[.any, .any, .v (.one (.ptr 0 ⟨0, 0, 0, 0⟩)), .any, .v (.one (.ptr 1 ⟨0, 0, 0, 0⟩)), .any, .any, .any, .any, .any, .any, .any, .any, .any, .any, .any, .any, .any, .any, .any, .any, .any, .any, .any, .any, .any, .any, .any, .any, .any, .any, .any, .any, .any, .any, .any, .any, .any, .any, .any, .any, .any, .any], [.ex false [.c (.sc (.int .i64 a0)), .c (.fs (.int .i64) a1 false)] 40, .ex false [.c (.sc (.int .i64 (0 : Int))), .c (.sc (.slice none 0 0))] 40], 0⟩
  | .inr t => fun e s => e = .ret ∧ s = ⟨[.any, .any, .any, .any, .v (.one (.ptr 1 ⟨0, 0, 0, 0⟩)), .v (.one (.sc (.bool t.2.2))), .v (.one (.sc (.int .i64 (0 : Int)))), .any, .any, .any, .any, .any, .any, .any, .any, .any, .any, .any, .any, .any, .any, .any, .any, .any, .any, .any, .any, .any, .any, .any, .any, .any, .any, .any, .any, .any, .any, .any, .any, .any, .any, .any, .any], [.ex false [.c (.sc (.int .i64 a0)), .c (.fs (.int .i64) t.1 false)] 40, .ex false [.c (.sc (.int .i64 a0)), .c (.fs (.int .i64) t.2.1 false)] 40], 0⟩
theorem halterref04_Unref.l0_ok (a0 : Int) (a1 : (List Int)) (a2 : Int) : ∀ (n : Nat) (x1 : Int) (r : (Unit) ⊕ ((List Int) × (List Int) × Bool)), halterref04_Unref.l0 a0 a1 a2 n x1 = some r → TripN cfg (cpath (Tryd.f17.body.getD .skip) [1, 0, 1, 0, 0]) n (halterref04_Unref.l0_S a0 a1 a2 x1) (halterref04_Unref.l0_Q a0 a1 a2 r) := by
  intro n
  induction n with
  | zero => intro x1 r h; cases h
  | succ n ih =>
    intro x1 r h
    rw [halterref04_Unref.l0] at h
    refine TripN.of_run cfg_ok (k := (.br (.br (.d (.b false) (.d (.b false) (.ex (Int) (fun t16 => (.dr [(2, dN), (0, dN), (1, dN), (3, ⟨none, .callQ true [] (halterref04_Refs.R t16), false⟩), (4, dN), (5, dN), (6, dN), (7, dN)] (.adj [.keep [4, 5, 6], .coB 0 true [], .coB 1 true [], .drop 2] .nil)))))) (.adj [] (.adj [] (.adj [.keep [1, 2, 4, 7], .drop 2] .nil)))) (.adj [.keep [2, 4], .drop 2] .nil))) (to_goal (q := (True) ∧ (True) ∧ (True) ∧ (((decide (x1 < (((List.length a1) : Nat) : Int))) = true → (True) ∧ (0 ≤ x1 ∧ x1 < (((List.length a1) : Nat) : Int)) ∧ (True) ∧ (True) ∧ ((((List.getD a1 (Int.toNat x1) (0 : Int)) == a2) = true → (True) ∧ (0 ≤ x1 ∧ x1 ≤ (((List.length a1) : Nat) : Int)) ∧ (True ∧ ((List.length (List.take (Int.toNat x1) a1)) * 8 ≤ 140737488355328 ∧ (List.length (List.take (Int.toNat x1) a1)) ≤ 9223372036854775807)) ∧ (True) ∧ (True) ∧ ((True) ∧ ((0 ≤ (IntKind.wrap .i64 (x1 + (1 : Int))) ∧ (IntKind.wrap .i64 (x1 + (1 : Int))) ≤ (((List.length a1) : Nat) : Int)))) ∧ (True ∧ 0 = 0 ∧ (List.length (List.take (Int.toNat x1) a1)) = (List.length (List.take (Int.toNat x1) a1)) ∧ (((List.length (List.take (Int.toNat x1) a1)) + (List.length (List.drop (Int.toNat (IntKind.wrap .i64 (x1 + (1 : Int)))) a1))) * 8 ≤ 140737488355328 ∧ (List.length (List.take (Int.toNat x1) a1)) + (List.length (List.drop (Int.toNat (IntKind.wrap .i64 (x1 + (1 : Int)))) a1)) ≤ 9223372036854775807)) ∧ (True) ∧ (∃ t16 : Int, (True) ∧ (True) ∧ ((0 = 0 ∧ (List.length ((List.take (Int.toNat x1) a1) ++ (List.drop (Int.toNat (IntKind.wrap .i64 (x1 + (1 : Int)))) a1))) = (List.length ((List.take (Int.toNat x1) a1) ++ (List.drop (Int.toNat (IntKind.wrap .i64 (x1 + (1 : Int)))) a1)))) ∧ Fun cfg 18 [.agg [.c (.sc (.int .i64 a0)), .c (.fs (.int .i64) ((List.take (Int.toNat x1) a1) ++ (List.drop (Int.toNat (IntKind.wrap .i64 (x1 + (1 : Int)))) a1)) false)], .one (.sc (.int .i64 a2))] [] (halterref04_Refs.R t16) [] ∧ True) ∧ (True) ∧ (True) ∧ (((True) ∧ (((0 = 0 ∧ (List.length ((List.take (Int.toNat x1) a1) ++ (List.drop (Int.toNat (IntKind.wrap .i64 (x1 + (1 : Int)))) a1))) = (List.length ((List.take (Int.toNat x1) a1) ++ (List.drop (Int.toNat (IntKind.wrap .i64 (x1 + (1 : Int)))) a1))))) ∧ True) ∧ (((0 = 0 ∧ (List.length ((List.take (Int.toNat x1) a1) ++ (List.drop (Int.toNat (IntKind.wrap .i64 (x1 + (1 : Int)))) a1))) = (List.length ((List.take (Int.toNat x1) a1) ++ (List.drop (Int.toNat (IntKind.wrap .i64 (x1 + (1 : Int)))) a1))))) ∧ True) ∧ (True) ∧ True) ∧ halterref04_Unref.l0_Q a0 a1 a2 r .ret ⟨[.any, .any, .any, .any, .v (.one (.ptr 1 ⟨0, 0, 0, 0⟩)), .v (.one (.sc (.bool (t16 == (0 : Int))))), .v (.one (.sc (.int .i64 (0 : Int)))), .any, .any, .any, .any, .any, .any, .any, .any, .any, .any, .any, .any, .any, .any, .any, .any, .any, .any, .any, .any, .any, .any, .any, .any, .any, .any, .any, .any, .any, .any, .any, .any, .any, .any, .any, .any], [.ex false [.c (.sc (.int .i64 a0)), .c (.fs (.int .i64) ((List.take (Int.toNat x1) a1) ++ (List.drop (Int.toNat (IntKind.wrap .i64 (x1 + (1 : Int)))) a1)) false)] 40, .ex false [.c (.sc (.int .i64 a0)), .c (.fs (.int .i64) ((List.take (Int.toNat x1) a1) ++ (List.drop (Int.toNat (IntKind.wrap .i64 (x1 + (1 : Int)))) a1)) false)] 40], 0⟩))) ∧ (((List.getD a1 (Int.toNat x1) (0 : Int)) == a2) = false → (True ∧ (True ∧ (True) ∧ (((True) ∧ (True) ∧ True) ∧ TripN cfg (cpath (Tryd.f17.body.getD .skip) [1, 0, 1, 0, 0]) n (halterref04_Unref.l0_S a0 a1 a2 (IntKind.wrap .i64 (x1 + (1 : Int)))) (halterref04_Unref.l0_Q a0 a1 a2 r))))))) ∧ ((decide (x1 < (((List.length a1) : Nat) : Int))) = false → (((True) ∧ (True) ∧ True) ∧ halterref04_Unref.l0_Q a0 a1 a2 r (.exit 0) ⟨[.any, .any, .v (.one (.ptr 0 ⟨0, 0, 0, 0⟩)), .any, .v (.one (.ptr 1 ⟨0, 0, 0, 0⟩)), .any, .any, .any, .any, .any, .any, .any, .any, .any, .any, .any, .any, .any, .any, .any, .any, .any, .any, .any, .any, .any, .any, .any, .any, .any, .any, .any, .any, .any, .any, .any, .any, .any, .any, .any, .any, .any, .any], [.ex false [.c (.sc (.int .i64 a0)), .c (.fs (.int .i64) a1 false)] 40, .ex false [.c (.sc (.int .i64 (0 : Int))), .c (.sc (.slice none 0 0))] 40], 0⟩)))) (by kernel_rfl) ?_)
    refine ⟨trivial, ?_⟩
    refine ⟨trivial, ?_⟩
    refine ⟨trivial, ?_⟩
    refine ⟨fun b14 => ?_, fun b14 => ?_⟩
    · rw [if_pos (of_decide_eq_true b14)] at h
      refine ⟨trivial, ?_⟩
      obtain ⟨g21, h⟩ := of_guard h
      refine ⟨g21, ?_⟩
      refine ⟨trivial, ?_⟩
      refine ⟨trivial, ?_⟩
      refine ⟨fun b15 => ?_, fun b15 => ?_⟩
      · rw [if_pos (beq_t b15)] at h
        refine ⟨trivial, ?_⟩
        obtain ⟨g20, h⟩ := of_guard h
        refine ⟨g20, ?_⟩
        obtain ⟨g19, h⟩ := of_guard h
        refine ⟨g19, ?_⟩
        refine ⟨trivial, ?_⟩
        refine ⟨trivial, ?_⟩
        obtain ⟨g18, h⟩ := of_guard h
        refine ⟨g18, ?_⟩
        obtain ⟨g17, h⟩ := of_guard h
        refine ⟨g17, ?_⟩
        refine ⟨trivial, ?_⟩
        obtain ⟨t16, ht16, h⟩ := of_bind h
        refine ⟨t16, ?_⟩
        refine ⟨trivial, trivial, ⟨⟨rfl, rfl⟩, halterref04_Refs.fun_ ht16, trivial⟩, trivial, trivial, ?_⟩
        obtain rfl := Option.some.inj h
        exact ⟨⟨trivial, ⟨⟨rfl, rfl⟩, trivial⟩, ⟨⟨rfl, rfl⟩, trivial⟩, trivial, trivial⟩, rfl, rfl⟩
      · rw [if_neg (beq_f b15)] at h
        refine ⟨trivial, ?_⟩
        refine ⟨trivial, ?_⟩
        refine ⟨trivial, ?_⟩
        exact ⟨⟨trivial, trivial, trivial⟩, ih (IntKind.wrap .i64 (x1 + (1 : Int))) r h⟩
    · rw [if_neg (of_decide_eq_false b14)] at h
      obtain rfl := Option.some.inj h
      exact ⟨⟨trivial, trivial, trivial⟩, rfl, rfl⟩
def halterref04_Unref.f (a0 : Int) (a1 : (List Int)) (a2 : Int) : Option (Int × (List Int) × Bool × Int) :=
  (halterref04_Unref.l0 a0 a1 a2 FUEL (0 : Int)).bind fun t13 =>
  match t13 with
  | .inl t25 =>
    some (a0, a1, false, (22 : Int))
  | .inr t26 =>
    some (a0, t26.2.1, t26.2.2, (0 : Int))
def halterref04_Unref.R (r : Int × (List Int) × Bool × Int) : Tm := .tup [.agg [.c (.sc (.int .i64 r.1)), .c (.fs (.int .i64) r.2.1 false)], .one (.sc (.bool r.2.2.1)), .one (.sc (.int .i64 r.2.2.2))]
theorem halterref04_Unref.fun_ {a0 : Int} {a1 : (List Int)} {a2 : Int} {r : Int × (List Int) × Bool × Int} (h : halterref04_Unref.f a0 a1 a2 = some r) : Fun cfg 17 [.agg [.c (.sc (.int .i64 a0)), .c (.fs (.int .i64) a1 false)], .one (.sc (.int .i64 a2))] [] (halterref04_Unref.R r) [] := by
  unfold halterref04_Unref.f at h
  refine fun_of_run cfg_ok (f := 17) (fn := Tryd.f17) Tryd.func17 rfl (by kernel_rfl) (rs := [.cell 4 40, .tmp 5, .tmp 6]) rfl (nt := 43) rfl (l := fin) (k := (.adj [] (.adj [] (.adj [] (.adj [.keep [1, 2, 4, 7]] (.alt (.sub (Unit) (fun _ => (.exit 0)) (fun t25 => ⟨[.any, .any, .v (.one (.ptr 0 ⟨0, 0, 0, 0⟩)), .any, .v (.one (.ptr 1 ⟨0, 0, 0, 0⟩)), .any, .any, .any, .any, .any, .any, .any, .any, .any, .any, .any, .any, .any, .any, .any, .any, .any, .any, .any, .any, .any, .any, .any, .any, .any, .any, .any, .any, .any, .any, .any, .any, .any, .any, .any, .any, .any, .any], [.ex false [.c (.sc (.int .i64 a0)), .c (.fs (.int .i64) a1 false)] 40, .ex false [.c (.sc (.int .i64 (0 : Int))), .c (.sc (.slice none 0 0))] 40], 0⟩) (fun t25 => (.adj [] (.adj [] (.adj [.drop 0] .nil))))) (.sub ((List Int) × (List Int) × Bool) (fun _ => .ret) (fun t26 => ⟨[.any, .any, .any, .any, .v (.one (.ptr 1 ⟨0, 0, 0, 0⟩)), .v (.one (.sc (.bool (z2 t26)))), .v (.one (.sc (.int .i64 (0 : Int)))), .any, .any, .any, .any, .any, .any, .any, .any, .any, .any, .any, .any, .any, .any, .any, .any, .any, .any, .any, .any, .any, .any, .any, .any, .any, .any, .any, .any, .any, .any, .any, .any, .any, .any, .any, .any], [.ex false [.c (.sc (.int .i64 a0)), .c (.fs (.int .i64) t26.1 false)] 40, .ex false [.c (.sc (.int .i64 a0)), .c (.fs (.int .i64) t26.2.1 false)] 40], 0⟩) (fun t26 => (.adj [.drop 0] .nil))))))))) (to_goal (q := (True ∧ (True ∧ (True ∧ (((True) ∧ True) ∧ ((∃ t25 : Unit, Trip cfg (.loop (cpath (Tryd.f17.body.getD .skip) [1, 0, 1, 0, 0])) ⟨[.any, .v (.one (.sc (.int .i64 a2))), .v (.one (.ptr 0 ⟨0, 0, 0, 0⟩)), .any, .v (.one (.ptr 1 ⟨0, 0, 0, 0⟩)), .any, .any, .v (.one (.sc (.int .i64 (0 : Int)))), .any, .any, .any, .any, .any, .any, .any, .any, .any, .any, .any, .any, .any, .any, .any, .any, .any, .any, .any, .any, .any, .any, .any, .any, .any, .any, .any, .any, .any, .any, .any, .any, .any, .any, .any], [.ex false [.c (.sc (.int .i64 a0)), .c (.fs (.int .i64) a1 false)] 40, .ex false [.c (.sc (.int .i64 (0 : Int))), .c (.sc (.slice none 0 0))] 40], 0⟩ (fun e s => e = (.exit 0) ∧ s = ⟨[.any, .any, .v (.one (.ptr 0 ⟨0, 0, 0, 0⟩)), .any, .v (.one (.ptr 1 ⟨0, 0, 0, 0⟩)), .any, .any, .any, .any, .any, .any, .any, .any, .any, .any, .any, .any, .any, .any, .any, .any, .any, .any, .any, .any, .any, .any, .any, .any, .any, .any, .any, .any, .any, .any, .any, .any, .any, .any, .any, .any, .any, .any], [.ex false [.c (.sc (.int .i64 a0)), .c (.fs (.int .i64) a1 false)] 40, .ex false [.c (.sc (.int .i64 (0 : Int))), .c (.sc (.slice none 0 0))] 40], 0⟩) ∧ (True ∧ (True) ∧ (True) ∧ (True ∧ (((True) ∧ True) ∧ ((True) ∧ True) ∧ (.tup [.agg [.c (.sc (.int .i64 a0)), .c (.fs (.int .i64) a1 false)], .one (.sc (.bool false)), .one (.sc (.int .i64 (22 : Int)))] : Tm) = halterref04_Unref.R r ∧ ([] : List Box) = [])))) ∨ (∃ t26 : (List Int) × (List Int) × Bool, Trip cfg (.loop (cpath (Tryd.f17.body.getD .skip) [1, 0, 1, 0, 0])) ⟨[.any, .v (.one (.sc (.int .i64 a2))), .v (.one (.ptr 0 ⟨0, 0, 0, 0⟩)), .any, .v (.one (.ptr 1 ⟨0, 0, 0, 0⟩)), .any, .any, .v (.one (.sc (.int .i64 (0 : Int)))), .any, .any, .any, .any, .any, .any, .any, .any, .any, .any, .any, .any, .any, .any, .any, .any, .any, .any, .any, .any, .any, .any, .any, .any, .any, .any, .any, .any, .any, .any, .any, .any, .any, .any, .any], [.ex false [.c (.sc (.int .i64 a0)), .c (.fs (.int .i64) a1 false)] 40, .ex false [.c (.sc (.int .i64 (0 : Int))), .c (.sc (.slice none 0 0))] 40], 0⟩ (fun e s => e = .ret ∧ s = ⟨[.any, .any, .any, .any, .v (.one (.ptr 1 ⟨0, 0, 0, 0⟩)), .v (.one (.sc (.bool (z2 t26)))), .v (.one (.sc (.int .i64 (0 : Int)))), .any, .any, .any, .any, .any, .any, .any, .any, .any, .any, .any, .any, .any, .any, .any, .any, .any, .any, .any, .any, .any, .any, .any, .any, .any, .any, .any, .any, .any, .any, .any, .any, .any, .any, .any, .any], [.ex false [.c (.sc (.int .i64 a0)), .c (.fs (.int .i64) t26.1 false)] 40, .ex false [.c (.sc (.int .i64 a0)), .c (.fs (.int .i64) t26.2.1 false)] 40], 0⟩) ∧ (((True) ∧ True) ∧ ((True) ∧ True) ∧ (.tup [.agg [.c (.sc (.int .i64 a0)), .c (.fs (.int .i64) t26.2.1 false)], .one (.sc (.bool (z2 t26))), .one (.sc (.int .i64 (0 : Int)))] : Tm) = halterref04_Unref.R r ∧ ([] : List Box) = [])))))))) (by kernel_rfl) ?_)
  refine ⟨trivial, ?_⟩
  refine ⟨trivial, ?_⟩
  refine ⟨trivial, ?_⟩
  obtain ⟨t13, ht13, h⟩ := of_bind h
  refine ⟨⟨trivial, trivial⟩, ?_⟩
  rcases t13 with t25 | t26
  · dsimp only at h
    left
    refine ⟨t25, Trip.loop FUEL (halterref04_Unref.l0_ok a0 a1 a2 FUEL (0 : Int) (.inl t25) ht13), ?_⟩
    refine ⟨trivial, ?_⟩
    refine ⟨trivial, ?_⟩
    refine ⟨trivial, ?_⟩
    refine ⟨trivial, ?_⟩
    obtain rfl := Option.some.inj h
    exact ⟨⟨trivial, trivial⟩, ⟨trivial, trivial⟩, rfl, rfl⟩
  · dsimp only at h
    right
    refine ⟨t26, Trip.loop FUEL (halterref04_Unref.l0_ok a0 a1 a2 FUEL (0 : Int) (.inr t26) ht13), ?_⟩
    obtain rfl := Option.some.inj h
    exact ⟨⟨trivial, trivial⟩, ⟨trivial, trivial⟩, rfl, rfl⟩
/-! halter/halterref04.Taken -/
def halterref04_Taken.l0 (a0 : Int) (a1 : (List Int)) : Nat → (List Int) → Int → Option (List Int)
  | 0, _, _ => none
  | n + 1, x10, x11 =>
    if x11 < a0 then
      (halterref04_Refs.f a0 a1 x11).bind fun t19 =>
      if t19 > (0 : Int) then
        if (0 = 0 ∧ 1 = 1) ∧ 0 = 0 ∧ (List.length x10) = (List.length x10) ∧ (((List.length x10) + 1) * 8 ≤ 140737488355328 ∧ (List.length x10) + 1 ≤ 9223372036854775807) then
          halterref04_Taken.l0 a0 a1 n (x10 ++ [x11]) (IntKind.wrap .i64 (x11 + (1 : Int)))
        else none
      else
        halterref04_Taken.l0 a0 a1 n x10 (IntKind.wrap .i64 (x11 + (1 : Int)))
    else
      some x10
def halterref04_Taken.l0_S (a0 : Int) (a1 : (List Int)) (x10 : List Int) (x11 : Int) : St := ⟨[.any, .v (.one (.ptr 0 ⟨0, 0, 0, 0⟩)), .any, .v (.one (.os 1 0 0 1 (List.length x10) none)), .v (.one (.sc (.int .i64 x11))), .any, .any, .any, .any, .any, .any, .any, .any, .any, .any, .any, .any, .any, .any, .any], [.ex false [.c (.sc (.int .i64 a0)), .c (.fs (.int .i64) a1 false)] 40, .gro false (.int .i64) x10 3], 0⟩
def halterref04_Taken.l0_Q (a0 : Int) (a1 : (List Int)) (t : (List Int)) : Exit → St → Prop := fun e s => e = (.exit 0) ∧ s = ⟨[.any, .any, .any, .v (.one (.os 1 0 0 1 (List.length t) none)), .any, .any, .any, .any, .any, .any, .any, .any, .any, .any, .any, .any, .any, .any, .any, .any], [.ex false [.c (.sc (.int .i64 a0)), .c (.fs (.int .i64) a1 false)] 40, .gro false (.int .i64) t 3], 0⟩
theorem halterref04_Taken.l0_ok (a0 : Int) (a1 : (List Int)) : ∀ (n : Nat) (x10 : List Int) (x11 : Int) (r : (List Int)), halterref04_Taken.l0 a0 a1 n x10 x11 = some r → TripN cfg (cpath (Tryd.f19.body.getD .skip) [1, 1, 0, 1, 0, 0]) n (halterref04_Taken.l0_S a0 a1 x10 x11) (halterref04_Taken.l0_Q a0 a1 r) := by
  intro n
  induction n with
  | zero => intro x10 x11 r h; cases h
  | succ n ih =>
    intro x10 x11 r h
    rw [halterref04_Taken.l0] at h
    refine TripN.of_run cfg_ok (k := (.br (.call true [] (Int) (fun t19 => halterref04_Refs.R t19) (fun t19 => (.br (.d (.b true) (.adj [] (.adj [.keep [1, 3, 4], .drop 2] .nil))) (.adj [] (.adj [] (.adj [.keep [1, 3, 4], .drop 2] .nil)))))) (.adj [.keep [3], .drop 2] .nil))) (to_goal (q := (True) ∧ (True) ∧ (((decide (x11 < a0)) = true → (True) ∧ (∃ t19 : Int, (Fun cfg 18 [.agg [.c (.sc (.int .i64 a0)), .c (.fs (.int .i64) a1 false)], .one (.sc (.int .i64 x11))] [] (halterref04_Refs.R t19) [] ∧ True) ∧ (True) ∧ (((decide (t19 > (0 : Int))) = true → ((0 = 0 ∧ 1 = 1) ∧ 0 = 0 ∧ (List.length x10) = (List.length x10) ∧ (((List.length x10) + 1) * 8 ≤ 140737488355328 ∧ (List.length x10) + 1 ≤ 9223372036854775807)) ∧ (True ∧ (True) ∧ (((True) ∧ (True) ∧ True) ∧ TripN cfg (cpath (Tryd.f19.body.getD .skip) [1, 1, 0, 1, 0, 0]) n (halterref04_Taken.l0_S a0 a1 (x10 ++ [x11]) (IntKind.wrap .i64 (x11 + (1 : Int)))) (halterref04_Taken.l0_Q a0 a1 r)))) ∧ ((decide (t19 > (0 : Int))) = false → (True ∧ (True ∧ (True) ∧ (((True) ∧ (True) ∧ True) ∧ TripN cfg (cpath (Tryd.f19.body.getD .skip) [1, 1, 0, 1, 0, 0]) n (halterref04_Taken.l0_S a0 a1 x10 (IntKind.wrap .i64 (x11 + (1 : Int)))) (halterref04_Taken.l0_Q a0 a1 r)))))))) ∧ ((decide (x11 < a0)) = false → (((True) ∧ (True) ∧ True) ∧ halterref04_Taken.l0_Q a0 a1 r (.exit 0) ⟨[.any, .any, .any, .v (.one (.os 1 0 0 1 (List.length x10) none)), .any, .any, .any, .any, .any, .any, .any, .any, .any, .any, .any, .any, .any, .any, .any, .any], [.ex false [.c (.sc (.int .i64 a0)), .c (.fs (.int .i64) a1 false)] 40, .gro false (.int .i64) x10 3], 0⟩)))) (by kernel_rfl) ?_)
    refine ⟨trivial, ?_⟩
    refine ⟨trivial, ?_⟩
    refine ⟨fun b18 => ?_, fun b18 => ?_⟩
    · rw [if_pos (of_decide_eq_true b18)] at h
      refine ⟨trivial, ?_⟩
      obtain ⟨t19, ht19, h⟩ := of_bind h
      refine ⟨t19, ⟨halterref04_Refs.fun_ ht19, trivial⟩, ?_⟩
      refine ⟨trivial, ?_⟩
      refine ⟨fun b20 => ?_, fun b20 => ?_⟩
      · rw [if_pos (of_decide_eq_true b20)] at h
        obtain ⟨g21, h⟩ := of_guard h
        refine ⟨g21, ?_⟩
        refine ⟨trivial, ?_⟩
        refine ⟨trivial, ?_⟩
        exact ⟨⟨trivial, trivial, trivial⟩, ih (x10 ++ [x11]) (IntKind.wrap .i64 (x11 + (1 : Int))) r h⟩
      · rw [if_neg (of_decide_eq_false b20)] at h
        refine ⟨trivial, ?_⟩
        refine ⟨trivial, ?_⟩
        refine ⟨trivial, ?_⟩
        exact ⟨⟨trivial, trivial, trivial⟩, ih x10 (IntKind.wrap .i64 (x11 + (1 : Int))) r h⟩
    · rw [if_neg (of_decide_eq_false b18)] at h
      obtain rfl := Option.some.inj h
      exact ⟨⟨trivial, trivial, trivial⟩, rfl, rfl⟩
def halterref04_Taken.f (a0 : Int) (a1 : (List Int)) : Option (List Int) :=
  (halterref04_Taken.l0 a0 a1 FUEL ([] : List Int) (0 : Int)).bind fun t17 =>
  some t17
def halterref04_Taken.R (r : (List Int)) : Tm := .v (.one (.fs (.int .i64) r false))
theorem halterref04_Taken.fun_ {a0 : Int} {a1 : (List Int)} {r : (List Int)} (h : halterref04_Taken.f a0 a1 = some r) : Fun cfg 19 [.agg [.c (.sc (.int .i64 a0)), .c (.fs (.int .i64) a1 false)]] [] (halterref04_Taken.R r) [] := by
  unfold halterref04_Taken.f at h
  refine fun_of_run cfg_ok (f := 19) (fn := Tryd.f19) Tryd.func19 rfl (by kernel_rfl) (rs := [.tmp 2]) rfl (nt := 20) rfl (l := fin) (k := (.adj [] (.adj [] (.adj [] (.adj [] (.adj [.keep [1, 3, 4], .nilGro 3 (.int .i64) 3] (.sub ((List Int)) (fun _ => (.exit 0)) (fun t17 => ⟨[.any, .any, .any, .v (.one (.os 1 0 0 1 (List.length t17) none)), .any, .any, .any, .any, .any, .any, .any, .any, .any, .any, .any, .any, .any, .any, .any, .any], [.ex false [.c (.sc (.int .i64 a0)), .c (.fs (.int .i64) a1 false)] 40, .gro false (.int .i64) t17 3], 0⟩) (fun t17 => (.adj [] (.adj [] (.adj [.co 0 true [], .drop 0] .nil))))))))))) (to_goal (q := (True ∧ (True ∧ (True ∧ (True ∧ (((True) ∧ (True) ∧ True) ∧ (∃ t17 : (List Int), Trip cfg (.loop (cpath (Tryd.f19.body.getD .skip) [1, 1, 0, 1, 0, 0])) ⟨[.any, .v (.one (.ptr 0 ⟨0, 0, 0, 0⟩)), .any, .v (.one (.os 1 0 0 1 0 none)), .v (.one (.sc (.int .i64 (0 : Int)))), .any, .any, .any, .any, .any, .any, .any, .any, .any, .any, .any, .any, .any, .any, .any], [.ex false [.c (.sc (.int .i64 a0)), .c (.fs (.int .i64) a1 false)] 40, .gro false (.int .i64) ([] : List Int) 3], 0⟩ (fun e s => e = (.exit 0) ∧ s = ⟨[.any, .any, .any, .v (.one (.os 1 0 0 1 (List.length t17) none)), .any, .any, .any, .any, .any, .any, .any, .any, .any, .any, .any, .any, .any, .any, .any, .any], [.ex false [.c (.sc (.int .i64 a0)), .c (.fs (.int .i64) a1 false)] 40, .gro false (.int .i64) t17 3], 0⟩) ∧ (True ∧ (True ∧ ((True) ∧ ((((0 = 0 ∧ (List.length t17) = (List.length t17))) ∧ True) ∧ (True) ∧ True) ∧ (.v (.one (.fs (.int .i64) t17 false)) : Tm) = halterref04_Taken.R r ∧ ([] : List Box) = [])))))))))) (by kernel_rfl) ?_)
  refine ⟨trivial, ?_⟩
  refine ⟨trivial, ?_⟩
  refine ⟨trivial, ?_⟩
  refine ⟨trivial, ?_⟩
  obtain ⟨t17, ht17, h⟩ := of_bind h
  refine ⟨⟨trivial, trivial, trivial⟩, t17, Trip.loop FUEL (halterref04_Taken.l0_ok a0 a1 FUEL ([] : List Int) (0 : Int) t17 ht17), ?_⟩
  refine ⟨trivial, ?_⟩
  refine ⟨trivial, ?_⟩
  obtain rfl := Option.some.inj h
  exact ⟨trivial, ⟨⟨⟨rfl, rfl⟩, trivial⟩, trivial, trivial⟩, rfl, rfl⟩
/-! halter/halterlaw04.ints -/
def halterlaw04_ints.l0 (a0 : (List Int)) (a1 : (List Int)) : Nat → Int → Option ((Unit) ⊕ (Unit))
  | 0, _ => none
  | n + 1, x2 =>
    if x2 < (((List.length a0) : Nat) : Int) then
      if 0 ≤ x2 ∧ x2 < (((List.length a0) : Nat) : Int) then
        if 0 ≤ x2 ∧ x2 < (((List.length a1) : Nat) : Int) then
          if ¬ (List.getD a0 (Int.toNat x2) (0 : Int)) = (List.getD a1 (Int.toNat x2) (0 : Int)) then
            some (.inr ())
          else
            halterlaw04_ints.l0 a0 a1 n (IntKind.wrap .i64 (x2 + (1 : Int)))
        else none
      else none
    else
      some (.inl ())
def halterlaw04_ints.l0_S (a0 : (List Int)) (a1 : (List Int)) (x2 : Int) : St := ⟨[.v (.one (.fs (.int .i64) a0 false)), .v (.one (.fs (.int .i64) a1 false)), .any, .any, .any, .v (.one (.sc (.int .i64 x2))), .any, .any, .any, .any, .any, .any, .any, .any, .any, .any, .any, .any, .any, .any, .any, .any, .any, .any, .any, .any], [], 0⟩
def halterlaw04_ints.l0_Q (a0 : (List Int)) (a1 : (List Int)) : (Unit) ⊕ (Unit) → Exit → St → Prop
  | .inl t => fun e s => e = (.exit 0) ∧ s = ⟨[.any, .any, .any, .any, .any, .any, .any, .any, .any, .any, .any, .any, .any, .any, .any, .any, .any, .any, .any, .any, .any, .any, .any, .any, .any, .any], [], 0⟩
  | .inr t => fun e s => e = .ret ∧ s = ⟨[.any, .any, .any, .any, .v (.one (.sc (.bool false))), .any, .any, .any, .any, .any, .any, .any, .any, .any, .any, .any, .any, .any, .any, .any, .any, .any, .any, .any, .any, .any], [], 0⟩
theorem halterlaw04_ints.l0_ok (a0 : (List Int)) (a1 : (List Int)) : ∀ (n : Nat) (x2 : Int) (r : (Unit) ⊕ (Unit)), halterlaw04_ints.l0 a0 a1 n x2 = some r → TripN cfg (cpath (Tryd.f20.body.getD .skip) [1, 1, 0, 1, 0, 0]) n (halterlaw04_ints.l0_S a0 a1 x2) (halterlaw04_ints.l0_Q a0 a1 r) := by
  intro n
  induction n with
  | zero => intro x2 r h; cases h
  | succ n ih =>
    intro x2 r h
    rw [halterlaw04_ints.l0] at h
    refine TripN.of_run cfg_ok (k := (.br (.dr [(0, dN), (1, dN), (2, dN), (4, dN), (5, dN), (6, dN), (3, dN), (7, dN), (8, dN)] (.br (.adj [] (.adj [.keep [4], .drop 0] .nil)) (.adj [] (.adj [] (.adj [.keep [0, 1, 5], .drop 0] .nil))))) (.adj [.keep [], .drop 0] .nil))) (to_goal (q := (True) ∧ (True) ∧ (((decide (x2 < (((List.length a0) : Nat) : Int))) = true → (0 ≤ x2 ∧ x2 < (((List.length a0) : Nat) : Int)) ∧ (0 ≤ x2 ∧ x2 < (((List.length a1) : Nat) : Int)) ∧ (True) ∧ (True) ∧ (True) ∧ ((((List.getD a0 (Int.toNat x2) (0 : Int)) != (List.getD a1 (Int.toNat x2) (0 : Int))) = true → (True ∧ (((True) ∧ (True) ∧ True) ∧ halterlaw04_ints.l0_Q a0 a1 r .ret ⟨[.any, .any, .any, .any, .v (.one (.sc (.bool false))), .any, .any, .any, .any, .any, .any, .any, .any, .any, .any, .any, .any, .any, .any, .any, .any, .any, .any, .any, .any, .any], [], 0⟩))) ∧ (((List.getD a0 (Int.toNat x2) (0 : Int)) != (List.getD a1 (Int.toNat x2) (0 : Int))) = false → (True ∧ (True ∧ (True) ∧ (((True) ∧ (True) ∧ True) ∧ TripN cfg (cpath (Tryd.f20.body.getD .skip) [1, 1, 0, 1, 0, 0]) n (halterlaw04_ints.l0_S a0 a1 (IntKind.wrap .i64 (x2 + (1 : Int)))) (halterlaw04_ints.l0_Q a0 a1 r))))))) ∧ ((decide (x2 < (((List.length a0) : Nat) : Int))) = false → (((True) ∧ (True) ∧ True) ∧ halterlaw04_ints.l0_Q a0 a1 r (.exit 0) ⟨[.any, .any, .any, .any, .any, .any, .any, .any, .any, .any, .any, .any, .any, .any, .any, .any, .any, .any, .any, .any, .any, .any, .any, .any, .any, .any], [], 0⟩)))) (by kernel_rfl) ?_)
    refine ⟨trivial, ?_⟩
    refine ⟨trivial, ?_⟩
    refine ⟨fun b8 => ?_, fun b8 => ?_⟩
    · rw [if_pos (of_decide_eq_true b8)] at h
      obtain ⟨g9, h⟩ := of_guard h
      obtain ⟨g10, h⟩ := of_guard h
      refine ⟨g9, g10, trivial, trivial, trivial, ?_⟩
      refine ⟨fun b11 => ?_, fun b11 => ?_⟩
      · rw [if_pos (bne_t b11)] at h
        refine ⟨trivial, ?_⟩
        obtain rfl := Option.some.inj h
        exact ⟨⟨trivial, trivial, trivial⟩, rfl, rfl⟩
      · rw [if_neg (not_not_intro (bne_f b11))] at h
        refine ⟨trivial, ?_⟩
        refine ⟨trivial, ?_⟩
        refine ⟨trivial, ?_⟩
        exact ⟨⟨trivial, trivial, trivial⟩, ih (IntKind.wrap .i64 (x2 + (1 : Int))) r h⟩
    · rw [if_neg (of_decide_eq_false b8)] at h
      obtain rfl := Option.some.inj h
      exact ⟨⟨trivial, trivial, trivial⟩, rfl, rfl⟩
def halterlaw04_ints.f (a0 : (List Int)) (a1 : (List Int)) : Option Bool :=
  if ¬ (((List.length a0) : Nat) : Int) = (((List.length a1) : Nat) : Int) then
    some false
  else
    (halterlaw04_ints.l0 a0 a1 FUEL (0 : Int)).bind fun t7 =>
    match t7 with
    | .inl t12 =>
      some true
    | .inr t13 =>
      some false
def halterlaw04_ints.R (r : Bool) : Tm := .v (.one (.sc (.bool r)))
theorem halterlaw04_ints.fun_ {a0 : (List Int)} {a1 : (List Int)} {r : Bool} (h : halterlaw04_ints.f a0 a1 = some r) : Fun cfg 20 [.one (.fs (.int .i64) a0 false), .one (.fs (.int .i64) a1 false)] [] (halterlaw04_ints.R r) [] := by
  unfold halterlaw04_ints.f at h
  refine fun_of_run cfg_ok (f := 20) (fn := Tryd.f20) Tryd.func20 rfl (by kernel_rfl) (rs := [.tmp 4]) rfl (nt := 26) rfl (l := fin) (k := (.br (.adj [] (.adj [] (.adj [] .nil))) (.adj [] (.adj [] (.adj [] (.adj [.keep [0, 1, 5]] (.alt (.sub (Unit) (fun _ => (.exit 0)) (fun t12 => ⟨[.any, .any, .any, .any, .any, .any, .any, .any, .any, .any, .any, .any, .any, .any, .any, .any, .any, .any, .any, .any, .any, .any, .any, .any, .any, .any], [], 0⟩) (fun t12 => (.adj [] (.adj [] (.adj [] .nil))))) (.sub (Unit) (fun _ => .ret) (fun t13 => ⟨[.any, .any, .any, .any, .v (.one (.sc (.bool false))), .any, .any, .any, .any, .any, .any, .any, .any, .any, .any, .any, .any, .any, .any, .any, .any, .any, .any, .any, .any, .any], [], 0⟩) (fun t13 => (.adj [] .nil)))))))))) (to_goal (q := (True) ∧ (True) ∧ (True) ∧ ((((((List.length a0) : Nat) : Int) != (((List.length a1) : Nat) : Int)) = true → (True ∧ (True ∧ ((True) ∧ (True) ∧ (.v (.one (.sc (.bool false))) : Tm) = halterlaw04_ints.R r ∧ ([] : List Box) = [])))) ∧ (((((List.length a0) : Nat) : Int) != (((List.length a1) : Nat) : Int)) = false → (True ∧ (True ∧ (True ∧ (((True) ∧ True) ∧ ((∃ t12 : Unit, Trip cfg (.loop (cpath (Tryd.f20.body.getD .skip) [1, 1, 0, 1, 0, 0])) ⟨[.v (.one (.fs (.int .i64) a0 false)), .v (.one (.fs (.int .i64) a1 false)), .any, .any, .any, .v (.one (.sc (.int .i64 (0 : Int)))), .any, .any, .any, .any, .any, .any, .any, .any, .any, .any, .any, .any, .any, .any, .any, .any, .any, .any, .any, .any], [], 0⟩ (fun e s => e = (.exit 0) ∧ s = ⟨[.any, .any, .any, .any, .any, .any, .any, .any, .any, .any, .any, .any, .any, .any, .any, .any, .any, .any, .any, .any, .any, .any, .any, .any, .any, .any], [], 0⟩) ∧ (True ∧ (True ∧ ((True) ∧ (True) ∧ (.v (.one (.sc (.bool true))) : Tm) = halterlaw04_ints.R r ∧ ([] : List Box) = [])))) ∨ (∃ t13 : Unit, Trip cfg (.loop (cpath (Tryd.f20.body.getD .skip) [1, 1, 0, 1, 0, 0])) ⟨[.v (.one (.fs (.int .i64) a0 false)), .v (.one (.fs (.int .i64) a1 false)), .any, .any, .any, .v (.one (.sc (.int .i64 (0 : Int)))), .any, .any, .any, .any, .any, .any, .any, .any, .any, .any, .any, .any, .any, .any, .any, .any, .any, .any, .any, .any], [], 0⟩ (fun e s => e = .ret ∧ s = ⟨[.any, .any, .any, .any, .v (.one (.sc (.bool false))), .any, .any, .any, .any, .any, .any, .any, .any, .any, .any, .any, .any, .any, .any, .any, .any, .any, .any, .any, .any, .any], [], 0⟩) ∧ ((True) ∧ (True) ∧ (.v (.one (.sc (.bool false))) : Tm) = halterlaw04_ints.R r ∧ ([] : List Box) = [])))))))))) (by kernel_rfl) ?_)
  refine ⟨trivial, ?_⟩
  refine ⟨trivial, ?_⟩
  refine ⟨trivial, ?_⟩
  refine ⟨fun b1 => ?_, fun b1 => ?_⟩
  · rw [if_pos (bne_t b1)] at h
    refine ⟨trivial, ?_⟩
    refine ⟨trivial, ?_⟩
    obtain rfl := Option.some.inj h
    exact ⟨trivial, trivial, rfl, rfl⟩
  · rw [if_neg (not_not_intro (bne_f b1))] at h
    refine ⟨trivial, ?_⟩
    refine ⟨trivial, ?_⟩
    refine ⟨trivial, ?_⟩
    obtain ⟨t7, ht7, h⟩ := of_bind h
    refine ⟨⟨trivial, trivial⟩, ?_⟩
    rcases t7 with t12 | t13
    · dsimp only at h
      left
      refine ⟨t12, Trip.loop FUEL (halterlaw04_ints.l0_ok a0 a1 FUEL (0 : Int) (.inl t12) ht7), ?_⟩
      refine ⟨trivial, ?_⟩
      refine ⟨trivial, ?_⟩
      obtain rfl := Option.some.inj h
      exact ⟨trivial, trivial, rfl, rfl⟩
    · dsimp only at h
      right
      refine ⟨t13, Trip.loop FUEL (halterlaw04_ints.l0_ok a0 a1 FUEL (0 : Int) (.inr t13) ht7), ?_⟩
      obtain rfl := Option.some.inj h
      exact ⟨trivial, trivial, rfl, rfl⟩
/-! halter/halterlaw04.FramesRun -/
def halterlaw04_FramesRun.j1 (t26 : Nat × Nat × (List Int)) (x103 : List Int) (x104 : Int) (x105 : List Int) (x106 : Int) (a0 : Int) (a1 : (List (Int × Int))) : Option (((List Int) × Int × (List Int)) ⊕ ((List Int))) :=
  if (IntKind.wrap .i64 ((Int.tmod (IntKind.wrap .u64 ((List.getD a1 (Int.toNat x106) ((0 : Int), (0 : Int))).1)) (4 : Int)))) < (2 : Int) then
    (frames_Frames_Alloc_v1.f t26.1 t26.2.1 x103).bind fun t172 =>
    (halterref04_Alloc.f x104 x105).bind fun t173 =>
    if ¬ t172.1 = t173.2.2.1 then
      some (.inr t172.2.2)
    else
      (num.f t172.2.1).bind fun t175 =>
      if ¬ t175 = t173.2.2.2 then
        some (.inr t172.2.2)
      else
        some (.inl (t172.2.2, t173.1, t173.2.1))
  else
    if (IntKind.wrap .i64 ((Int.tmod (IntKind.wrap .u64 ((List.getD a1 (Int.toNat x106) ((0 : Int), (0 : Int))).1)) (4 : Int)))) = (2 : Int) then
      (halterref04_Ref.f x104 x105 (List.getD a1 (Int.toNat x106) ((0 : Int), (0 : Int))).2).bind fun t178 =>
      (frames_Frames_Ref_v1.f (List.getD a1 (Int.toNat x106) ((0 : Int), (0 : Int))).2 t26.1 t26.2.1 x103).bind fun t179 =>
      (num.f t179.1).bind fun t180 =>
      if ¬ t180 = t178.2.2 then
        some (.inr t179.2)
      else
        some (.inl (t179.2, t178.1, t178.2.1))
    else
      (frames_Frames_Unref_v1.f (List.getD a1 (Int.toNat x106) ((0 : Int), (0 : Int))).2 t26.1 t26.2.1 x103).bind fun t182 =>
      (halterref04_Unref.f x104 x105 (List.getD a1 (Int.toNat x106) ((0 : Int), (0 : Int))).2).bind fun t183 =>
      if ¬ (t182.1 = t183.2.2.1) then
        some (.inr t182.2.2)
      else
        (num.f t182.2.1).bind fun t185 =>
        if ¬ t185 = t183.2.2.2 then
          some (.inr t182.2.2)
        else
          some (.inl (t182.2.2, t183.1, t183.2.1))
def halterlaw04_FramesRun.j1_S (t26 : Nat × Nat × (List Int)) (x103 : List Int) (x104 : Int) (x105 : List Int) (x106 : Int) (a0 : Int) (a1 : (List (Int × Int))) : St := ⟨[.v (.one (.sc (.int .i64 a0))), .v (.one (.fs (.pair (.int .i64) (.int .i64)) a1 false)), .any, .any, .any, .any, .any, .any, .any, .any, .v (.one (.ptr 0 ⟨0, 0, 0, 0⟩)), .any, .v (.one (.ptr 2 ⟨0, 0, 0, 0⟩)), .v (.one (.sc (.int .i64 x106))), .v (.one (.sc (.int .i64 (List.getD a1 (Int.toNat x106) ((0 : Int), (0 : Int))).2))), .v (.one (.sc (.int .i64 (IntKind.wrap .i64 ((Int.tmod (IntKind.wrap .u64 ((List.getD a1 (Int.toNat x106) ((0 : Int), (0 : Int))).1)) (4 : Int))))))), .any, .any, .any, .any, .any, .any, .any, .any, .any, .any, .any, .any, .any, .any, .any, .any, .any, .any, .any, .any, .any, .any, .any, .any, .any, .any, .any, .any, .any, .any, .any, .any, .any, .any, .any, .any, .any, .any, .any, .any, .any, .any, .any, .any, .any, .any, .any, .any, .any, .any, .any, .any, .any, .any, .any, .any, .any, .any, .any, .any, .any, .any, .any, .any, .any, .any, .any, .any, .any, .any, .any, .any, .any, .any, .any, .any, .any, .any, .any, .any, .any, .any, .any, .any, .any, .any, .any, .any, .any, .any, .any, .any, .any, .any, .any, .any, .any, .any, .any, .any, .any, .any, .any, .any, .any, .any, .any, .any, .any, .any, .any, .any, .any, .any, .any, .any, .any, .any, .any, .any, .any, .any, .any, .any, .any, .any, .any, .any, .any, .any, .any, .any, .any, .any, .any, .any, .any, .any, .any, .any, .any, .any, .any, .any, .any, .any, .any, .any, .any, .any, .any, .any, .any, .any, .any, .any, .any, .any, .any, .any, .any, .any, .any, .any, .any, .any, .any, .any, .any, .any, .any, .any, .any, .any, .any, .any, .any, .any, .any, .any, .any, .any, .any, .any, .any, .any, .any, .any, .any, .any, .any, .any, .any], [.ex false [.c (.os 1 0 0 1 t26.1 none)] 58, .ex false [.row t26.2.1 (.int .i64) x103] 3, .ex false [.c (.sc (.int .i64 x104)), .c (.fs (.int .i64) x105 false)] 40], 0⟩
def halterlaw04_FramesRun.j1_Q (t26 : Nat × Nat × (List Int)) (x103 : List Int) (x104 : Int) (x105 : List Int) (x106 : Int) (a0 : Int) (a1 : (List (Int × Int))) : ((List Int) × Int × (List Int)) ⊕ ((List Int)) → Exit → St → Prop
  | .inl t => fun e s => e = .normal ∧ s = ⟨[.v (.one (.sc (.int .i64 a0))), .v (.one (.fs (.pair (.int .i64) (.int .i64)) a1 false)), .any, .any, .any, .any, .any, .any, .any, .any, .v (.one (.ptr 0 ⟨0, 0, 0, 0⟩)), .any, .v (.one (.ptr 2 ⟨0, 0, 0, 0⟩)), .v (.one (.sc (.int .i64 x106))), .v (.one (.sc (.int .i64 (List.getD a1 (Int.toNat x106) ((0 : Int), (0 : Int))).2))), .any, .any, .any, .any, .any, .any, .any, .any, .any, .any, .any, .any, .any, .any, .any, .any, .any, .any, .any, .any, .any, .any, .any, .any, .any, .any, .any, .any, .any, .any, .any, .any, .any, .any, .any, .any, .any, .any, .any, .any, .any, .any, .any, .any, .any, .any, .any, .any, .any, .any, .any, .any, .any, .any, .any, .any, .any, .any, .any, .any, .any, .any, .any, .any, .any, .any, .any, .any, .any, .any, .any, .any, .any, .any, .any, .any, .any, .any, .any, .any, .any, .any, .any, .any, .any, .any, .any, .any, .any, .any, .any, .any, .any, .any, .any, .any, .any, .any, .any, .any, .any, .any, .any, .any, .any, .any, .any, .any, .any, .any, .any, .any, .any, .any, .any, .any, .any, .any, .any, .any, .any, .any, .any, .any, .any, .any, .any, .any, .any, .any, .any, .any, .any, .any, .any, .any, .any, .any, .any, .any, .any, .any, .any, .any, .any, .any, .any, .any, .any, .any, .any, .any, .any, .any, .any, .any, .any, .any, .any, .any, .any, .any, .any, .any, .any, .any, .any, .any, .any, .any, .any, .any, .any, .any, .any, .any, .any, .any, .any, .any, .any, .any, .any, .any, .any, .any, .any, .any, .any, .any, .any, .any, .any, .any], [.ex false [.c (.os 1 0 0 1 t26.1 none)] 58, .ex false [.row t26.2.1 (.int .i64) t.1] 3, .ex false [.c (.sc (.int .i64 t.2.1)), .c (.fs (.int .i64) t.2.2 false)] 40], 0⟩
  | .inr t => fun e s => e = .ret ∧ s = ⟨[.any, .any, .any, .any, .v (.one (.sc (.bool false))), .any, .any, .any, .any, .any, .any, .any, .any, .any, .any, .any, .any, .any, .any, .any, .any, .any, .any, .any, .any, .any, .any, .any, .any, .any, .any, .any, .any, .any, .any, .any, .any, .any, .any, .any, .any, .any, .any, .any, .any, .any, .any, .any, .any, .any, .any, .any, .any, .any, .any, .any, .any, .any, .any, .any, .any, .any, .any, .any, .any, .any, .any, .any, .any, .any, .any, .any, .any, .any, .any, .any, .any, .any, .any, .any, .any, .any, .any, .any, .any, .any, .any, .any, .any, .any, .any, .any, .any, .any, .any, .any, .any, .any, .any, .any, .any, .any, .any, .any, .any, .any, .any, .any, .any, .any, .any, .any, .any, .any, .any, .any, .any, .any, .any, .any, .any, .any, .any, .any, .any, .any, .any, .any, .any, .any, .any, .any, .any, .any, .any, .any, .any, .any, .any, .any, .any, .any, .any, .any, .any, .any, .any, .any, .any, .any, .any, .any, .any, .any, .any, .any, .any, .any, .any, .any, .any, .any, .any, .any, .any, .any, .any, .any, .any, .any, .any, .any, .any, .any, .any, .any, .any, .any, .any, .any, .any, .any, .any, .any, .any, .any, .any, .any, .any, .any, .any, .any, .any, .any, .any, .any, .any, .any, .any, .any, .any, .any, .any, .any, .any, .any, .any, .any, .any], [.ex false [.c (.os 1 0 0 1 t26.1 none)] 58, .ex false [.row t26.2.1 (.int .i64) t] 3, .ex false [.c (.sc (.int .i64 x104)), .c (.fs (.int .i64) x105 false)] 40], 0⟩
theorem halterlaw04_FramesRun.j1_ok (t26 : Nat × Nat × (List Int)) (x103 : List Int) (x104 : Int) (x105 : List Int) (x106 : Int) (a0 : Int) (a1 : (List (Int × Int))) (r : ((List Int) × Int × (List Int)) ⊕ ((List Int))) (h : halterlaw04_FramesRun.j1 t26 x103 x104 x105 x106 a0 a1 = some r) : Trip cfg (cpath (Tryd.f3.body.getD .skip) [1, 1, 1, 1, 1, 1, 1, 1, 1, 0, 1, 0, 0, 1, 0, 0, 1, 0, 1]) (halterlaw04_FramesRun.j1_S t26 x103 x104 x105 x106 a0 a1) (halterlaw04_FramesRun.j1_Q t26 x103 x104 x105 x106 a0 a1 r) := by
  unfold halterlaw04_FramesRun.j1 at h
  refine Trip.of_run cfg_ok (k := (.br (.callR true [] [0, 1] (Int × (Option Int) × (List Int)) (fun t172 => (frames_Frames_Alloc_v1.R t172)) (fun t172 => (frames_Frames_Alloc_v1.B t26.1 t26.2.1 x103 t172)) (fun t172 => (.call true [] (Int × (List Int) × Int × Int) (fun t173 => halterref04_Alloc.R t173) (fun t173 => (.br (.one true (.one true (.one true (.one true (.one true (.adj [] (.adj [.keep [4], .drop 3] .nil))))))) (.one false (.call true [] (Int) (fun t175 => num.R t175) (fun t175 => (.one false (.one false (.one false (.br (.adj [] (.adj [.keep [4], .drop 3] .nil)) (.adj [] (.adj [] (.adj [.keep [0, 1, 10, 12, 13, 14], .drop 3] .nil))))))))))))))) (.br (.call true [] (Int × (List Int) × Int) (fun t178 => halterref04_Ref.R t178) (fun t178 => (.callR true [] [0, 1] ((Option Int) × (List Int)) (fun t179 => (frames_Frames_Ref_v1.R t179)) (fun t179 => (frames_Frames_Ref_v1.B (List.getD a1 (Int.toNat x106) ((0 : Int), (0 : Int))).2 t26.1 t26.2.1 x103 t179)) (fun t179 => (.call true [] (Int) (fun t180 => num.R t180) (fun t180 => (.br (.adj [] (.adj [.keep [4], .drop 3] .nil)) (.adj [] (.adj [] (.adj [.keep [0, 1, 10, 12, 13, 14], .drop 3] .nil)))))))))) (.callR true [] [0, 1] (Bool × (Option Int) × (List Int)) (fun t182 => (frames_Frames_Unref_v1.R t182)) (fun t182 => (frames_Frames_Unref_v1.B (List.getD a1 (Int.toNat x106) ((0 : Int), (0 : Int))).2 t26.1 t26.2.1 x103 t182)) (fun t182 => (.call true [] (Int × (List Int) × Bool × Int) (fun t183 => halterref04_Unref.R t183) (fun t183 => (.br (.one true (.one true (.one true (.one true (.one true (.adj [] (.adj [.keep [4], .drop 3] .nil))))))) (.one false (.call true [] (Int) (fun t185 => num.R t185) (fun t185 => (.one false (.one false (.one false (.br (.adj [] (.adj [.keep [4], .drop 3] .nil)) (.adj [] (.adj [] (.adj [.keep [0, 1, 10, 12, 13, 14], .drop 3] .nil)))))))))))))))))) (to_goal (q := (True) ∧ (((decide ((IntKind.wrap .i64 ((Int.tmod (IntKind.wrap .u64 ((List.getD a1 (Int.toNat x106) ((0 : Int), (0 : Int))).1)) (4 : Int)))) < (2 : Int))) = true → (∃ t172 : Int × (Option Int) × (List Int), (Fun cfg 6 [.one (.ptr 0 ⟨0, 0, 0, 0⟩)] [.ex false [.c (.os 1 0 0 1 t26.1 none)] 58, .ex false [.row t26.2.1 (.int .i64) x103] 3] (frames_Frames_Alloc_v1.R t172) (frames_Frames_Alloc_v1.B t26.1 t26.2.1 x103 t172) ∧ True) ∧ (True) ∧ (∃ t173 : Int × (List Int) × Int × Int, (Fun cfg 15 [.agg [.c (.sc (.int .i64 x104)), .c (.fs (.int .i64) x105 false)]] [] (halterref04_Alloc.R t173) [] ∧ True) ∧ (True) ∧ (True) ∧ (((t172.1 != (p2 t173)) = false → ((t172.1 != (p2 t173)) = false ∧ (∃ t175 : Int, (Fun cfg 8 [.one (.err t172.2.1)] [] (num.R t175) [] ∧ True) ∧ ((t172.1 != (p2 t173)) = false ∧ ((t172.1 != (p2 t173)) = false ∧ (True) ∧ ((t172.1 != (p2 t173)) = false ∧ (((t175 != (z3 t173)) = true → (True ∧ (((True) ∧ (True) ∧ True) ∧ halterlaw04_FramesRun.j1_Q t26 x103 x104 x105 x106 a0 a1 r .ret ⟨[.any, .any, .any, .any, .v (.one (.sc (.bool false))), .any, .any, .any, .any, .any, .any, .any, .any, .any, .any, .any, .any, .any, .any, .any, .any, .any, .any, .any, .any, .any, .any, .any, .any, .any, .any, .any, .any, .any, .any, .any, .any, .any, .any, .any, .any, .any, .any, .any, .any, .any, .any, .any, .any, .any, .any, .any, .any, .any, .any, .any, .any, .any, .any, .any, .any, .any, .any, .any, .any, .any, .any, .any, .any, .any, .any, .any, .any, .any, .any, .any, .any, .any, .any, .any, .any, .any, .any, .any, .any, .any, .any, .any, .any, .any, .any, .any, .any, .any, .any, .any, .any, .any, .any, .any, .any, .any, .any, .any, .any, .any, .any, .any, .any, .any, .any, .any, .any, .any, .any, .any, .any, .any, .any, .any, .any, .any, .any, .any, .any, .any, .any, .any, .any, .any, .any, .any, .any, .any, .any, .any, .any, .any, .any, .any, .any, .any, .any, .any, .any, .any, .any, .any, .any, .any, .any, .any, .any, .any, .any, .any, .any, .any, .any, .any, .any, .any, .any, .any, .any, .any, .any, .any, .any, .any, .any, .any, .any, .any, .any, .any, .any, .any, .any, .any, .any, .any, .any, .any, .any, .any, .any, .any, .any, .any, .any, .any, .any, .any, .any, .any, .any, .any, .any, .any, .any, .any, .any, .any, .any, .any, .any, .any, .any], [.ex false [.c (.os 1 0 0 1 t26.1 none)] 58, .ex false [.row t26.2.1 (.int .i64) (z2 t172)] 3, .ex false [.c (.sc (.int .i64 x104)), .c (.fs (.int .i64) x105 false)] 40], 0⟩))) ∧ ((t175 != (z3 t173)) = false → (True ∧ (True ∧ (True) ∧ (True) ∧ (((True) ∧ (True) ∧ True) ∧ halterlaw04_FramesRun.j1_Q t26 x103 x104 x105 x106 a0 a1 r .normal ⟨[.v (.one (.sc (.int .i64 a0))), .v (.one (.fs (.pair (.int .i64) (.int .i64)) a1 false)), .any, .any, .any, .any, .any, .any, .any, .any, .v (.one (.ptr 0 ⟨0, 0, 0, 0⟩)), .any, .v (.one (.ptr 2 ⟨0, 0, 0, 0⟩)), .v (.one (.sc (.int .i64 x106))), .v (.one (.sc (.int .i64 (List.getD a1 (Int.toNat x106) ((0 : Int), (0 : Int))).2))), .any, .any, .any, .any, .any, .any, .any, .any, .any, .any, .any, .any, .any, .any, .any, .any, .any, .any, .any, .any, .any, .any, .any, .any, .any, .any, .any, .any, .any, .any, .any, .any, .any, .any, .any, .any, .any, .any, .any, .any, .any, .any, .any, .any, .any, .any, .any, .any, .any, .any, .any, .any, .any, .any, .any, .any, .any, .any, .any, .any, .any, .any, .any, .any, .any, .any, .any, .any, .any, .any, .any, .any, .any, .any, .any, .any, .any, .any, .any, .any, .any, .any, .any, .any, .any, .any, .any, .any, .any, .any, .any, .any, .any, .any, .any, .any, .any, .any, .any, .any, .any, .any, .any, .any, .any, .any, .any, .any, .any, .any, .any, .any, .any, .any, .any, .any, .any, .any, .any, .any, .any, .any, .any, .any, .any, .any, .any, .any, .any, .any, .any, .any, .any, .any, .any, .any, .any, .any, .any, .any, .any, .any, .any, .any, .any, .any, .any, .any, .any, .any, .any, .any, .any, .any, .any, .any, .any, .any, .any, .any, .any, .any, .any, .any, .any, .any, .any, .any, .any, .any, .any, .any, .any, .any, .any, .any, .any, .any, .any, .any, .any, .any, .any, .any, .any, .any, .any, .any, .any, .any, .any, .any, .any, .any], [.ex false [.c (.os 1 0 0 1 t26.1 none)] 58, .ex false [.row t26.2.1 (.int .i64) (z2 t172)] 3, .ex false [.c (.sc (.int .i64 t173.1)), .c (.fs (.int .i64) t173.2.1 false)] 40], 0⟩))))))))))) ∧ ((t172.1 != (p2 t173)) = true → ((t172.1 != (p2 t173)) = true ∧ ((t172.1 != (p2 t173)) = true ∧ ((t172.1 != (p2 t173)) = true ∧ ((t172.1 != (p2 t173)) = true ∧ (true = true ∧ (True ∧ (((True) ∧ (True) ∧ True) ∧ halterlaw04_FramesRun.j1_Q t26 x103 x104 x105 x106 a0 a1 r .ret ⟨[.any, .any, .any, .any, .v (.one (.sc (.bool false))), .any, .any, .any, .any, .any, .any, .any, .any, .any, .any, .any, .any, .any, .any, .any, .any, .any, .any, .any, .any, .any, .any, .any, .any, .any, .any, .any, .any, .any, .any, .any, .any, .any, .any, .any, .any, .any, .any, .any, .any, .any, .any, .any, .any, .any, .any, .any, .any, .any, .any, .any, .any, .any, .any, .any, .any, .any, .any, .any, .any, .any, .any, .any, .any, .any, .any, .any, .any, .any, .any, .any, .any, .any, .any, .any, .any, .any, .any, .any, .any, .any, .any, .any, .any, .any, .any, .any, .any, .any, .any, .any, .any, .any, .any, .any, .any, .any, .any, .any, .any, .any, .any, .any, .any, .any, .any, .any, .any, .any, .any, .any, .any, .any, .any, .any, .any, .any, .any, .any, .any, .any, .any, .any, .any, .any, .any, .any, .any, .any, .any, .any, .any, .any, .any, .any, .any, .any, .any, .any, .any, .any, .any, .any, .any, .any, .any, .any, .any, .any, .any, .any, .any, .any, .any, .any, .any, .any, .any, .any, .any, .any, .any, .any, .any, .any, .any, .any, .any, .any, .any, .any, .any, .any, .any, .any, .any, .any, .any, .any, .any, .any, .any, .any, .any, .any, .any, .any, .any, .any, .any, .any, .any, .any, .any, .any, .any, .any, .any, .any, .any, .any, .any, .any, .any], [.ex false [.c (.os 1 0 0 1 t26.1 none)] 58, .ex false [.row t26.2.1 (.int .i64) (z2 t172)] 3, .ex false [.c (.sc (.int .i64 x104)), .c (.fs (.int .i64) x105 false)] 40], 0⟩)))))))))))) ∧ ((decide ((IntKind.wrap .i64 ((Int.tmod (IntKind.wrap .u64 ((List.getD a1 (Int.toNat x106) ((0 : Int), (0 : Int))).1)) (4 : Int)))) < (2 : Int))) = false → (True) ∧ ((((IntKind.wrap .i64 ((Int.tmod (IntKind.wrap .u64 ((List.getD a1 (Int.toNat x106) ((0 : Int), (0 : Int))).1)) (4 : Int)))) == (2 : Int)) = true → (True) ∧ (∃ t178 : Int × (List Int) × Int, (Fun cfg 16 [.agg [.c (.sc (.int .i64 x104)), .c (.fs (.int .i64) x105 false)], .one (.sc (.int .i64 (List.getD a1 (Int.toNat x106) ((0 : Int), (0 : Int))).2))] [] (halterref04_Ref.R t178) [] ∧ True) ∧ (True) ∧ (∃ t179 : (Option Int) × (List Int), (Fun cfg 9 [.one (.ptr 0 ⟨0, 0, 0, 0⟩), .one (.sc (.int .i64 (List.getD a1 (Int.toNat x106) ((0 : Int), (0 : Int))).2))] [.ex false [.c (.os 1 0 0 1 t26.1 none)] 58, .ex false [.row t26.2.1 (.int .i64) x103] 3] (frames_Frames_Ref_v1.R t179) (frames_Frames_Ref_v1.B (List.getD a1 (Int.toNat x106) ((0 : Int), (0 : Int))).2 t26.1 t26.2.1 x103 t179) ∧ True) ∧ (∃ t180 : Int, (Fun cfg 8 [.one (.err t179.1)] [] (num.R t180) [] ∧ True) ∧ (True) ∧ (((t180 != (z2 t178)) = true → (True ∧ (((True) ∧ (True) ∧ True) ∧ halterlaw04_FramesRun.j1_Q t26 x103 x104 x105 x106 a0 a1 r .ret ⟨[.any, .any, .any, .any, .v (.one (.sc (.bool false))), .any, .any, .any, .any, .any, .any, .any, .any, .any, .any, .any, .any, .any, .any, .any, .any, .any, .any, .any, .any, .any, .any, .any, .any, .any, .any, .any, .any, .any, .any, .any, .any, .any, .any, .any, .any, .any, .any, .any, .any, .any, .any, .any, .any, .any, .any, .any, .any, .any, .any, .any, .any, .any, .any, .any, .any, .any, .any, .any, .any, .any, .any, .any, .any, .any, .any, .any, .any, .any, .any, .any, .any, .any, .any, .any, .any, .any, .any, .any, .any, .any, .any, .any, .any, .any, .any, .any, .any, .any, .any, .any, .any, .any, .any, .any, .any, .any, .any, .any, .any, .any, .any, .any, .any, .any, .any, .any, .any, .any, .any, .any, .any, .any, .any, .any, .any, .any, .any, .any, .any, .any, .any, .any, .any, .any, .any, .any, .any, .any, .any, .any, .any, .any, .any, .any, .any, .any, .any, .any, .any, .any, .any, .any, .any, .any, .any, .any, .any, .any, .any, .any, .any, .any, .any, .any, .any, .any, .any, .any, .any, .any, .any, .any, .any, .any, .any, .any, .any, .any, .any, .any, .any, .any, .any, .any, .any, .any, .any, .any, .any, .any, .any, .any, .any, .any, .any, .any, .any, .any, .any, .any, .any, .any, .any, .any, .any, .any, .any, .any, .any, .any, .any, .any, .any], [.ex false [.c (.os 1 0 0 1 t26.1 none)] 58, .ex false [.row t26.2.1 (.int .i64) t179.2] 3, .ex false [.c (.sc (.int .i64 x104)), .c (.fs (.int .i64) x105 false)] 40], 0⟩))) ∧ ((t180 != (z2 t178)) = false → (True ∧ (True ∧ (True) ∧ (True) ∧ (((True) ∧ (True) ∧ True) ∧ halterlaw04_FramesRun.j1_Q t26 x103 x104 x105 x106 a0 a1 r .normal ⟨[.v (.one (.sc (.int .i64 a0))), .v (.one (.fs (.pair (.int .i64) (.int .i64)) a1 false)), .any, .any, .any, .any, .any, .any, .any, .any, .v (.one (.ptr 0 ⟨0, 0, 0, 0⟩)), .any, .v (.one (.ptr 2 ⟨0, 0, 0, 0⟩)), .v (.one (.sc (.int .i64 x106))), .v (.one (.sc (.int .i64 (List.getD a1 (Int.toNat x106) ((0 : Int), (0 : Int))).2))), .any, .any, .any, .any, .any, .any, .any, .any, .any, .any, .any, .any, .any, .any, .any, .any, .any, .any, .any, .any, .any, .any, .any, .any, .any, .any, .any, .any, .any, .any, .any, .any, .any, .any, .any, .any, .any, .any, .any, .any, .any, .any, .any, .any, .any, .any, .any, .any, .any, .any, .any, .any, .any, .any, .any, .any, .any, .any, .any, .any, .any, .any, .any, .any, .any, .any, .any, .any, .any, .any, .any, .any, .any, .any, .any, .any, .any, .any, .any, .any, .any, .any, .any, .any, .any, .any, .any, .any, .any, .any, .any, .any, .any, .any, .any, .any, .any, .any, .any, .any, .any, .any, .any, .any, .any, .any, .any, .any, .any, .any, .any, .any, .any, .any, .any, .any, .any, .any, .any, .any, .any, .any, .any, .any, .any, .any, .any, .any, .any, .any, .any, .any, .any, .any, .any, .any, .any, .any, .any, .any, .any, .any, .any, .any, .any, .any, .any, .any, .any, .any, .any, .any, .any, .any, .any, .any, .any, .any, .any, .any, .any, .any, .any, .any, .any, .any, .any, .any, .any, .any, .any, .any, .any, .any, .any, .any, .any, .any, .any, .any, .any, .any, .any, .any, .any, .any, .any, .any, .any, .any, .any, .any, .any, .any], [.ex false [.c (.os 1 0 0 1 t26.1 none)] 58, .ex false [.row t26.2.1 (.int .i64) t179.2] 3, .ex false [.c (.sc (.int .i64 t178.1)), .c (.fs (.int .i64) t178.2.1 false)] 40], 0⟩))))))))) ∧ (((IntKind.wrap .i64 ((Int.tmod (IntKind.wrap .u64 ((List.getD a1 (Int.toNat x106) ((0 : Int), (0 : Int))).1)) (4 : Int)))) == (2 : Int)) = false → (∃ t182 : Bool × (Option Int) × (List Int), (Fun cfg 7 [.one (.ptr 0 ⟨0, 0, 0, 0⟩), .one (.sc (.int .i64 (List.getD a1 (Int.toNat x106) ((0 : Int), (0 : Int))).2))] [.ex false [.c (.os 1 0 0 1 t26.1 none)] 58, .ex false [.row t26.2.1 (.int .i64) x103] 3] (frames_Frames_Unref_v1.R t182) (frames_Frames_Unref_v1.B (List.getD a1 (Int.toNat x106) ((0 : Int), (0 : Int))).2 t26.1 t26.2.1 x103 t182) ∧ True) ∧ (True) ∧ (∃ t183 : Int × (List Int) × Bool × Int, (Fun cfg 17 [.agg [.c (.sc (.int .i64 x104)), .c (.fs (.int .i64) x105 false)], .one (.sc (.int .i64 (List.getD a1 (Int.toNat x106) ((0 : Int), (0 : Int))).2))] [] (halterref04_Unref.R t183) [] ∧ True) ∧ (True) ∧ (True) ∧ (((!(t182.1 == (p2 t183))) = false → ((!(t182.1 == (p2 t183))) = false ∧ (∃ t185 : Int, (Fun cfg 8 [.one (.err t182.2.1)] [] (num.R t185) [] ∧ True) ∧ ((!(t182.1 == (p2 t183))) = false ∧ ((!(t182.1 == (p2 t183))) = false ∧ (True) ∧ ((!(t182.1 == (p2 t183))) = false ∧ (((t185 != (z3 t183)) = true → (True ∧ (((True) ∧ (True) ∧ True) ∧ halterlaw04_FramesRun.j1_Q t26 x103 x104 x105 x106 a0 a1 r .ret ⟨[.any, .any, .any, .any, .v (.one (.sc (.bool false))), .any, .any, .any, .any, .any, .any, .any, .any, .any, .any, .any, .any, .any, .any, .any, .any, .any, .any, .any, .any, .any, .any, .any, .any, .any, .any, .any, .any, .any, .any, .any, .any, .any, .any, .any, .any, .any, .any, .any, .any, .any, .any, .any, .any, .any, .any, .any, .any, .any, .any, .any, .any, .any, .any, .any, .any, .any, .any, .any, .any, .any, .any, .any, .any, .any, .any, .any, .any, .any, .any, .any, .any, .any, .any, .any, .any, .any, .any, .any, .any, .any, .any, .any, .any, .any, .any, .any, .any, .any, .any, .any, .any, .any, .any, .any, .any, .any, .any, .any, .any, .any, .any, .any, .any, .any, .any, .any, .any, .any, .any, .any, .any, .any, .any, .any, .any, .any, .any, .any, .any, .any, .any, .any, .any, .any, .any, .any, .any, .any, .any, .any, .any, .any, .any, .any, .any, .any, .any, .any, .any, .any, .any, .any, .any, .any, .any, .any, .any, .any, .any, .any, .any, .any, .any, .any, .any, .any, .any, .any, .any, .any, .any, .any, .any, .any, .any, .any, .any, .any, .any, .any, .any, .any, .any, .any, .any, .any, .any, .any, .any, .any, .any, .any, .any, .any, .any, .any, .any, .any, .any, .any, .any, .any, .any, .any, .any, .any, .any, .any, .any, .any, .any, .any, .any], [.ex false [.c (.os 1 0 0 1 t26.1 none)] 58, .ex false [.row t26.2.1 (.int .i64) (z2 t182)] 3, .ex false [.c (.sc (.int .i64 x104)), .c (.fs (.int .i64) x105 false)] 40], 0⟩))) ∧ ((t185 != (z3 t183)) = false → (True ∧ (True ∧ (True) ∧ (True) ∧ (((True) ∧ (True) ∧ True) ∧ halterlaw04_FramesRun.j1_Q t26 x103 x104 x105 x106 a0 a1 r .normal ⟨[.v (.one (.sc (.int .i64 a0))), .v (.one (.fs (.pair (.int .i64) (.int .i64)) a1 false)), .any, .any, .any, .any, .any, .any, .any, .any, .v (.one (.ptr 0 ⟨0, 0, 0, 0⟩)), .any, .v (.one (.ptr 2 ⟨0, 0, 0, 0⟩)), .v (.one (.sc (.int .i64 x106))), .v (.one (.sc (.int .i64 (List.getD a1 (Int.toNat x106) ((0 : Int), (0 : Int))).2))), .any, .any, .any, .any, .any, .any, .any, .any, .any, .any, .any, .any, .any, .any, .any, .any, .any, .any, .any, .any, .any, .any, .any, .any, .any, .any, .any, .any, .any, .any, .any, .any, .any, .any, .any, .any, .any, .any, .any, .any, .any, .any, .any, .any, .any, .any, .any, .any, .any, .any, .any, .any, .any, .any, .any, .any, .any, .any, .any, .any, .any, .any, .any, .any, .any, .any, .any, .any, .any, .any, .any, .any, .any, .any, .any, .any, .any, .any, .any, .any, .any, .any, .any, .any, .any, .any, .any, .any, .any, .any, .any, .any, .any, .any, .any, .any, .any, .any, .any, .any, .any, .any, .any, .any, .any, .any, .any, .any, .any, .any, .any, .any, .any, .any, .any, .any, .any, .any, .any, .any, .any, .any, .any, .any, .any, .any, .any, .any, .any, .any, .any, .any, .any, .any, .any, .any, .any, .any, .any, .any, .any, .any, .any, .any, .any, .any, .any, .any, .any, .any, .any, .any, .any, .any, .any, .any, .any, .any, .any, .any, .any, .any, .any, .any, .any, .any, .any, .any, .any, .any, .any, .any, .any, .any, .any, .any, .any, .any, .any, .any, .any, .any, .any, .any, .any, .any, .any, .any, .any, .any, .any, .any, .any, .any], [.ex false [.c (.os 1 0 0 1 t26.1 none)] 58, .ex false [.row t26.2.1 (.int .i64) (z2 t182)] 3, .ex false [.c (.sc (.int .i64 t183.1)), .c (.fs (.int .i64) t183.2.1 false)] 40], 0⟩))))))))))) ∧ ((!(t182.1 == (p2 t183))) = true → ((!(t182.1 == (p2 t183))) = true ∧ ((!(t182.1 == (p2 t183))) = true ∧ ((!(t182.1 == (p2 t183))) = true ∧ ((!(t182.1 == (p2 t183))) = true ∧ (true = true ∧ (True ∧ (((True) ∧ (True) ∧ True) ∧ halterlaw04_FramesRun.j1_Q t26 x103 x104 x105 x106 a0 a1 r .ret ⟨[.any, .any, .any, .any, .v (.one (.sc (.bool false))), .any, .any, .any, .any, .any, .any, .any, .any, .any, .any, .any, .any, .any, .any, .any, .any, .any, .any, .any, .any, .any, .any, .any, .any, .any, .any, .any, .any, .any, .any, .any, .any, .any, .any, .any, .any, .any, .any, .any, .any, .any, .any, .any, .any, .any, .any, .any, .any, .any, .any, .any, .any, .any, .any, .any, .any, .any, .any, .any, .any, .any, .any, .any, .any, .any, .any, .any, .any, .any, .any, .any, .any, .any, .any, .any, .any, .any, .any, .any, .any, .any, .any, .any, .any, .any, .any, .any, .any, .any, .any, .any, .any, .any, .any, .any, .any, .any, .any, .any, .any, .any, .any, .any, .any, .any, .any, .any, .any, .any, .any, .any, .any, .any, .any, .any, .any, .any, .any, .any, .any, .any, .any, .any, .any, .any, .any, .any, .any, .any, .any, .any, .any, .any, .any, .any, .any, .any, .any, .any, .any, .any, .any, .any, .any, .any, .any, .any, .any, .any, .any, .any, .any, .any, .any, .any, .any, .any, .any, .any, .any, .any, .any, .any, .any, .any, .any, .any, .any, .any, .any, .any, .any, .any, .any, .any, .any, .any, .any, .any, .any, .any, .any, .any, .any, .any, .any, .any, .any, .any, .any, .any, .any, .any, .any, .any, .any, .any, .any, .any, .any, .any, .any, .any, .any], [.ex false [.c (.os 1 0 0 1 t26.1 none)] 58, .ex false [.row t26.2.1 (.int .i64) (z2 t182)] 3, .ex false [.c (.sc (.int .i64 x104)), .c (.fs (.int .i64) x105 false)] 40], 0⟩)))))))))))))))) (by kernel_rfl) ?_)
  refine ⟨trivial, ?_⟩
  refine ⟨fun b171 => ?_, fun b171 => ?_⟩
  · rw [if_pos (of_decide_eq_true b171)] at h
    obtain ⟨t172, ht172, h⟩ := of_bind h
    refine ⟨t172, ⟨frames_Frames_Alloc_v1.fun_ ht172, trivial⟩, ?_⟩
    refine ⟨trivial, ?_⟩
    obtain ⟨t173, ht173, h⟩ := of_bind h
    refine ⟨t173, ⟨halterref04_Alloc.fun_ ht173, trivial⟩, ?_⟩
    refine ⟨trivial, ?_⟩
    refine ⟨trivial, ?_⟩
    refine ⟨fun b174 => ?_, fun b174 => ?_⟩
    · rw [if_neg (not_not_intro (bne_f b174))] at h
      refine ⟨b174, ?_⟩
      obtain ⟨t175, ht175, h⟩ := of_bind h
      refine ⟨t175, ⟨num.fun_ ht175, trivial⟩, ?_⟩
      refine ⟨b174, ?_⟩
      refine ⟨b174, ?_⟩
      refine ⟨trivial, ?_⟩
      refine ⟨b174, ?_⟩
      refine ⟨fun b176 => ?_, fun b176 => ?_⟩
      · rw [if_pos (bne_t b176)] at h
        refine ⟨trivial, ?_⟩
        obtain rfl := Option.some.inj h
        exact ⟨⟨trivial, trivial, trivial⟩, rfl, rfl⟩
      · rw [if_neg (not_not_intro (bne_f b176))] at h
        refine ⟨trivial, ?_⟩
        refine ⟨trivial, ?_⟩
        refine ⟨trivial, ?_⟩
        refine ⟨trivial, ?_⟩
        obtain rfl := Option.some.inj h
        exact ⟨⟨trivial, trivial, trivial⟩, rfl, rfl⟩
    · rw [if_pos (bne_t b174)] at h
      refine ⟨b174, ?_⟩
      refine ⟨b174, ?_⟩
      refine ⟨b174, ?_⟩
      refine ⟨b174, ?_⟩
      refine ⟨rfl, ?_⟩
      refine ⟨trivial, ?_⟩
      obtain rfl := Option.some.inj h
      exact ⟨⟨trivial, trivial, trivial⟩, rfl, rfl⟩
  · rw [if_neg (of_decide_eq_false b171)] at h
    refine ⟨trivial, ?_⟩
    refine ⟨fun b177 => ?_, fun b177 => ?_⟩
    · rw [if_pos (beq_t b177)] at h
      refine ⟨trivial, ?_⟩
      obtain ⟨t178, ht178, h⟩ := of_bind h
      refine ⟨t178, ⟨halterref04_Ref.fun_ ht178, trivial⟩, ?_⟩
      refine ⟨trivial, ?_⟩
      obtain ⟨t179, ht179, h⟩ := of_bind h
      refine ⟨t179, ⟨frames_Frames_Ref_v1.fun_ ht179, trivial⟩, ?_⟩
      obtain ⟨t180, ht180, h⟩ := of_bind h
      refine ⟨t180, ⟨num.fun_ ht180, trivial⟩, ?_⟩
      refine ⟨trivial, ?_⟩
      refine ⟨fun b181 => ?_, fun b181 => ?_⟩
      · rw [if_pos (bne_t b181)] at h
        refine ⟨trivial, ?_⟩
        obtain rfl := Option.some.inj h
        exact ⟨⟨trivial, trivial, trivial⟩, rfl, rfl⟩
      · rw [if_neg (not_not_intro (bne_f b181))] at h
        refine ⟨trivial, ?_⟩
        refine ⟨trivial, ?_⟩
        refine ⟨trivial, ?_⟩
        refine ⟨trivial, ?_⟩
        obtain rfl := Option.some.inj h
        exact ⟨⟨trivial, trivial, trivial⟩, rfl, rfl⟩
    · rw [if_neg (beq_f b177)] at h
      obtain ⟨t182, ht182, h⟩ := of_bind h
      refine ⟨t182, ⟨frames_Frames_Unref_v1.fun_ ht182, trivial⟩, ?_⟩
      refine ⟨trivial, ?_⟩
      obtain ⟨t183, ht183, h⟩ := of_bind h
      refine ⟨t183, ⟨halterref04_Unref.fun_ ht183, trivial⟩, ?_⟩
      refine ⟨trivial, ?_⟩
      refine ⟨trivial, ?_⟩
      refine ⟨fun b184 => ?_, fun b184 => ?_⟩
      · rw [if_neg (not_not_intro (bb_t (not_f b184)))] at h
        refine ⟨b184, ?_⟩
        obtain ⟨t185, ht185, h⟩ := of_bind h
        refine ⟨t185, ⟨num.fun_ ht185, trivial⟩, ?_⟩
        refine ⟨b184, ?_⟩
        refine ⟨b184, ?_⟩
        refine ⟨trivial, ?_⟩
        refine ⟨b184, ?_⟩
        refine ⟨fun b186 => ?_, fun b186 => ?_⟩
        · rw [if_pos (bne_t b186)] at h
          refine ⟨trivial, ?_⟩
          obtain rfl := Option.some.inj h
          exact ⟨⟨trivial, trivial, trivial⟩, rfl, rfl⟩
        · rw [if_neg (not_not_intro (bne_f b186))] at h
          refine ⟨trivial, ?_⟩
          refine ⟨trivial, ?_⟩
          refine ⟨trivial, ?_⟩
          refine ⟨trivial, ?_⟩
          obtain rfl := Option.some.inj h
          exact ⟨⟨trivial, trivial, trivial⟩, rfl, rfl⟩
      · rw [if_pos (bb_f (not_t b184))] at h
        refine ⟨b184, ?_⟩
        refine ⟨b184, ?_⟩
        refine ⟨b184, ?_⟩
        refine ⟨b184, ?_⟩
        refine ⟨rfl, ?_⟩
        refine ⟨trivial, ?_⟩
        obtain rfl := Option.some.inj h
        exact ⟨⟨trivial, trivial, trivial⟩, rfl, rfl⟩
def halterlaw04_FramesRun.l0 (t26 : Nat × Nat × (List Int)) (a0 : Int) (a1 : (List (Int × Int))) : Nat → (List Int) → Int → (List Int) → Int → Option (((List Int) × Int × (List Int)) ⊕ ((List Int) × Int × (List Int)))
  | 0, _, _, _, _ => none
  | n + 1, x103, x104, x105, x106 =>
    if x106 < (((List.length a1) : Nat) : Int) then
      if x106 < (30 : Int) then
        if 0 ≤ x106 ∧ x106 < (((List.length a1) : Nat) : Int) then
          if 0 ≤ x106 ∧ x106 < (((List.length a1) : Nat) : Int) then
            (halterlaw04_FramesRun.j1 t26 x103 x104 x105 x106 a0 a1).bind fun t170 =>
            match t170 with
            | .inl t191 =>
              (frames_Frames_Refs_v1.f (List.getD a1 (Int.toNat x106) ((0 : Int), (0 : Int))).2 t26.1 t26.2.1 t191.1).bind fun t195 =>
              (halterref04_Refs.f t191.2.1 t191.2.2 (List.getD a1 (Int.toNat x106) ((0 : Int), (0 : Int))).2).bind fun t196 =>
              if ¬ t195 = t196 then
                some (.inr (t191.1, t191.2.1, t191.2.2))
              else
                halterlaw04_FramesRun.l0 t26 a0 a1 n t191.1 t191.2.1 t191.2.2 (IntKind.wrap .i64 (x106 + (1 : Int)))
            | .inr t198 =>
              some (.inr (t198, x104, x105))
          else none
        else none
      else
        some (.inl (x103, x104, x105))
    else
      some (.inl (x103, x104, x105))
def halterlaw04_FramesRun.l0_S (t26 : Nat × Nat × (List Int)) (a0 : Int) (a1 : (List (Int × Int))) (x103 : List Int) (x104 : Int) (x105 : List Int) (x106 : Int) : St := ⟨[.v (.one (.sc (.int .i64 a0))), .v (.one (.fs (.pair (.int .i64) (.int .i64)) a1 false)), .any, .any, .any, .any, .any, .any, .any, .any, .v (.one (.ptr 0 ⟨0, 0, 0, 0⟩)), .any, .v (.one (.ptr 2 ⟨0, 0, 0, 0⟩)), .v (.one (.sc (.int .i64 x106))), .any, .any, .any, .any, .any, .any, .any, .any, .any, .any, .any, .any, .any, .any, .any, .any, .any, .any, .any, .any, .any, .any, .any, .any, .any, .any, .any, .any, .any, .any, .any, .any, .any, .any, .any, .any, .any, .any, .any, .any, .any, .any, .any, .any, .any, .any, .any, .any, .any, .any, .any, .any, .any, .any, .any, .any, .any, .any, .any, .any, .any, .any, .any, .any, .any, .any, .any, .any, .any, .any, .any, .any, .any, .any, .any, .any, .any, .any, .any, .any, .any, .any, .any, .any, .any, .any, .any, .any, .any, .any, .any, .any, .any, .any, .any, .any, .any, .any, .any, .any, .any, .any, .any, .any, .any, .any, .any, .any, .any, .any, .any, .any, .any, .any, .any, .any, .any, .any, .any, .any, .any, .any, .any, .any, .any, .any, .any, .any, .any, .any, .any, .any, .any, .any, .any, .any, .any, .any, .any, .any, .any, .any, .any, .any, .any, .any, .any, .any, .any, .any, .any, .any, .any, .any, .any, .any, .any, .any, .any, .any, .any, .any, .any, .any, .any, .any, .any, .any, .any, .any, .any, .any, .any, .any, .any, .any, .any, .any, .any, .any, .any, .any, .any, .any, .any, .any, .any, .any, .any, .any, .any, .any, .any, .any, .any], [.ex false [.c (.os 1 0 0 1 t26.1 none)] 58, .ex false [.row t26.2.1 (.int .i64) x103] 3, .ex false [.c (.sc (.int .i64 x104)), .c (.fs (.int .i64) x105 false)] 40], 0⟩
def halterlaw04_FramesRun.l0_Q (t26 : Nat × Nat × (List Int)) (a0 : Int) (a1 : (List (Int × Int))) : ((List Int) × Int × (List Int)) ⊕ ((List Int) × Int × (List Int)) → Exit → St → Prop
  | .inl t => fun e s => e = (.exit 0) ∧ s = ⟨[.v (.one (.sc (.int .i64 a0))), .any, .any, .any, .any, .any, .any, .any, .any, .any, .v (.one (.ptr 0 ⟨0, 0, 0, 0⟩)), .any, .v (.one (.ptr 2 ⟨0, 0, 0, 0⟩)), .any, .any, .any, .any, .any, .any, .any, .any, .any, .any, .any, .any, .any, .any, .any, .any, .any, .any, .any, .any, .any, .any, .any, .any, .any, .any, .any, .any, .any, .any, .any, .any, .any, .any, .any, .any, .any, .any, .any, .any, .any, .any, .any, .any, .any, .any, .any, .any, .any, .any, .any, .any, .any, .any, .any, .any, .any, .any, .any, .any, .any, .any, .any, .any, .any, .any, .any, .any, .any, .any, .any, .any, .any, .any, .any, .any, .any, .any, .any, .any, .any, .any, .any, .any, .any, .any, .any, .any, .any, .any, .any, .any, .any, .any, .any, .any, .any, .any, .any, .any, .any, .any, .any, .any, .any, .any, .any, .any, .any, .any, .any, .any, .any, .any, .any, .any, .any, .any, .any, .any, .any, .any, .any, .any, .any, .any, .any, .any, .any, .any, .any, .any, .any, .any, .any, .any, .any, .any, .any, .any, .any, .any, .any, .any, .any, .any, .any, .any, .any, .any, .any, .any, .any, .any, .any, .any, .any, .any, .any, .any, .any, .any, .any, .any, .any, .any, .any, .any, .any, .any, .any, .any, .any, .any, .any, .any, .any, .any, .any, .any, .any, .any, .any, .any, .any, .any, .any, .any, .any, .any, .any, .any, .any, .any, .any, .any], [.ex false [.c (.os 1 0 0 1 t26.1 none)] 58, .ex false [.row t26.2.1 (.int .i64) t.1] 3, .ex false [.c (.sc (.int .i64 t.2.1)), .c (.fs (.int .i64) t.2.2 false)] 40], 0⟩
  | .inr t => fun e s => e = .ret ∧ s = ⟨[.any, .any, .any, .any, .v (.one (.sc (.bool false))), .any, .any, .any, .any, .any, .any, .any, .any, .any, .any, .any, .any, .any, .any, .any, .any, .any, .any, .any, .any, .any, .any, .any, .any, .any, .any, .any, .any, .any, .any, .any, .any, .any, .any, .any, .any, .any, .any, .any, .any, .any, .any, .any, .any, .any, .any, .any, .any, .any, .any, .any, .any, .any, .any, .any, .any, .any, .any, .any, .any, .any, .any, .any, .any, .any, .any, .any, .any, .any, .any, .any, .any, .any, .any, .any, .any, .any, .any, .any, .any, .any, .any, .any, .any, .any, .any, .any, .any, .any, .any, .any, .any, .any, .any, .any, .any, .any, .any, .any, .any, .any, .any, .any, .any, .any, .any, .any, .any, .any, .any, .any, .any, .any, .any, .any, .any, .any, .any, .any, .any, .any, .any, .any, .any, .any, .any, .any, .any, .any, .any, .any, .any, .any, .any, .any, .any, .any, .any, .any, .any, .any, .any, .any, .any, .any, .any, .any, .any, .any, .any, .any, .any, .any, .any, .any, .any, .any, .any, .any, .any, .any, .any, .any, .any, .any, .any, .any, .any, .any, .any, .any, .any, .any, .any, .any, .any, .any, .any, .any, .any, .any, .any, .any, .any, .any, .any, .any, .any, .any, .any, .any, .any, .any, .any, .any, .any, .any, .any, .any, .any, .any, .any, .any, .any], [.ex false [.c (.os 1 0 0 1 t26.1 none)] 58, .ex false [.row t26.2.1 (.int .i64) t.1] 3, .ex false [.c (.sc (.int .i64 t.2.1)), .c (.fs (.int .i64) t.2.2 false)] 40], 0⟩
theorem halterlaw04_FramesRun.l0_ok (t26 : Nat × Nat × (List Int)) (a0 : Int) (a1 : (List (Int × Int))) : ∀ (n : Nat) (x103 : List Int) (x104 : Int) (x105 : List Int) (x106 : Int) (r : ((List Int) × Int × (List Int)) ⊕ ((List Int) × Int × (List Int))), halterlaw04_FramesRun.l0 t26 a0 a1 n x103 x104 x105 x106 = some r → TripN cfg (cpath (Tryd.f3.body.getD .skip) [1, 1, 1, 1, 1, 1, 1, 1, 1, 0, 1, 0, 0]) n (halterlaw04_FramesRun.l0_S t26 a0 a1 x103 x104 x105 x106) (halterlaw04_FramesRun.l0_Q t26 a0 a1 r) := by
  intro n
  induction n with
  | zero => intro x103 x104 x105 x106 r h; cases h
  | succ n ih =>
    intro x103 x104 x105 x106 r h
    rw [halterlaw04_FramesRun.l0] at h
    refine TripN.of_run cfg_ok (k := (.br (.one true (.one true (.br (.adj [] (.adj [] (.adj [] (.adj [] (.adj [.keep [0, 1, 10, 12, 13, 14, 15]] (.altb (.blk ((List Int) × Int × (List Int)) (fun _ => .normal) (fun t191 => ⟨[.v (.one (.sc (.int .i64 a0))), .v (.one (.fs (.pair (.int .i64) (.int .i64)) a1 false)), .any, .any, .any, .any, .any, .any, .any, .any, .v (.one (.ptr 0 ⟨0, 0, 0, 0⟩)), .any, .v (.one (.ptr 2 ⟨0, 0, 0, 0⟩)), .v (.one (.sc (.int .i64 x106))), .v (.one (.sc (.int .i64 (List.getD a1 (Int.toNat x106) ((0 : Int), (0 : Int))).2))), .any, .any, .any, .any, .any, .any, .any, .any, .any, .any, .any, .any, .any, .any, .any, .any, .any, .any, .any, .any, .any, .any, .any, .any, .any, .any, .any, .any, .any, .any, .any, .any, .any, .any, .any, .any, .any, .any, .any, .any, .any, .any, .any, .any, .any, .any, .any, .any, .any, .any, .any, .any, .any, .any, .any, .any, .any, .any, .any, .any, .any, .any, .any, .any, .any, .any, .any, .any, .any, .any, .any, .any, .any, .any, .any, .any, .any, .any, .any, .any, .any, .any, .any, .any, .any, .any, .any, .any, .any, .any, .any, .any, .any, .any, .any, .any, .any, .any, .any, .any, .any, .any, .any, .any, .any, .any, .any, .any, .any, .any, .any, .any, .any, .any, .any, .any, .any, .any, .any, .any, .any, .any, .any, .any, .any, .any, .any, .any, .any, .any, .any, .any, .any, .any, .any, .any, .any, .any, .any, .any, .any, .any, .any, .any, .any, .any, .any, .any, .any, .any, .any, .any, .any, .any, .any, .any, .any, .any, .any, .any, .any, .any, .any, .any, .any, .any, .any, .any, .any, .any, .any, .any, .any, .any, .any, .any, .any, .any, .any, .any, .any, .any, .any, .any, .any, .any, .any, .any, .any, .any, .any, .any, .any, .any], [.ex false [.c (.os 1 0 0 1 t26.1 none)] 58, .ex false [.row t26.2.1 (.int .i64) t191.1] 3, .ex false [.c (.sc (.int .i64 t191.2.1)), .c (.fs (.int .i64) (z2 t191) false)] 40], 0⟩) (fun t191 => (.ex (Int) (fun t195 => (.ex (Int) (fun t196 => (.drP [(0, dN), (1, dN), (4, dN), (2, ⟨none, .callR true [] [0, 1] (frames_Frames_Refs_v1.R t195) (frames_Frames_Refs_v1.B (List.getD a1 (Int.toNat x106) ((0 : Int), (0 : Int))).2 t26.1 t26.2.1 t191.1 t195), true⟩), (3, ⟨none, .no, true⟩), (5, ⟨none, .callP true [] (halterref04_Refs.R t196), false⟩), (6, dN)] [([0, 1, 4, 3, 2, 5, 6], [0, 1, 2])] ⟨[.v (.one (.sc (.int .i64 a0))), .v (.one (.fs (.pair (.int .i64) (.int .i64)) a1 false)), .any, .any, .any, .any, .any, .any, .any, .any, .v (.one (.ptr 0 ⟨0, 0, 0, 0⟩)), .any, .v (.one (.ptr 2 ⟨0, 0, 0, 0⟩)), .v (.one (.sc (.int .i64 x106))), .v (.one (.sc (.int .i64 (List.getD a1 (Int.toNat x106) ((0 : Int), (0 : Int))).2))), .any, .any, .any, .any, .any, .any, .any, .any, .any, .any, .any, .any, .any, .any, .any, .any, .any, .any, .any, .any, .any, .any, .any, .any, .any, .any, .any, .any, .any, .any, .any, .any, .any, .any, .any, .any, .any, .any, .any, .any, .any, .any, .any, .any, .any, .any, .any, .any, .any, .any, .any, .any, .any, .any, .any, .any, .any, .any, .any, .any, .any, .any, .any, .any, .any, .any, .any, .any, .any, .any, .any, .any, .any, .any, .any, .any, .any, .any, .any, .any, .any, .any, .any, .any, .any, .any, .any, .any, .any, .any, .any, .any, .any, .any, .any, .any, .any, .any, .any, .any, .any, .any, .any, .any, .any, .any, .any, .any, .any, .any, .any, .any, .any, .any, .any, .any, .any, .any, .any, .any, .any, .any, .any, .any, .any, .any, .any, .any, .any, .any, .any, .any, .any, .any, .any, .any, .any, .any, .any, .any, .any, .any, .any, .any, .any, .any, .any, .any, .any, .any, .any, .any, .any, .any, .any, .any, .any, .any, .any, .any, .any, .any, .any, .any, .any, .any, .any, .any, .any, .v (.one (.ptr 0 ⟨0, 0, 0, 0⟩)), .v (.one (.sc (.int .i64 (List.getD a1 (Int.toNat x106) ((0 : Int), (0 : Int))).2))), .v (.one (.sc (.int .i64 t195))), .v (.agg [.c (.sc (.int .i64 t191.2.1)), .c (.fs (.int .i64) (z2 t191) false)]), .v (.one (.sc (.int .i64 (List.getD a1 (Int.toNat x106) ((0 : Int), (0 : Int))).2))), .v (.one (.sc (.int .i64 t196))), .v (.one (.sc (.bool (t195 != t196)))), .any, .any, .any, .any, .any, .any, .any, .any, .any, .any, .any, .any, .any, .any, .any, .any, .any, .any], [.ex false [.c (.os 1 0 0 1 t26.1 none)] 58, .ex false [.row t26.2.1 (.int .i64) t191.1] 3, .ex false [.c (.sc (.int .i64 t191.2.1)), .c (.fs (.int .i64) (z2 t191) false)] 40], 0⟩ (.br (.adj [] (.adj [.keep [4], .drop 3] .nil)) (.adj [] (.adj [] (.adj [.keep [0, 1, 10, 12, 13], .drop 3] .nil))))))))))) (.blk ((List Int)) (fun _ => .ret) (fun t198 => ⟨[.any, .any, .any, .any, .v (.one (.sc (.bool false))), .any, .any, .any, .any, .any, .any, .any, .any, .any, .any, .any, .any, .any, .any, .any, .any, .any, .any, .any, .any, .any, .any, .any, .any, .any, .any, .any, .any, .any, .any, .any, .any, .any, .any, .any, .any, .any, .any, .any, .any, .any, .any, .any, .any, .any, .any, .any, .any, .any, .any, .any, .any, .any, .any, .any, .any, .any, .any, .any, .any, .any, .any, .any, .any, .any, .any, .any, .any, .any, .any, .any, .any, .any, .any, .any, .any, .any, .any, .any, .any, .any, .any, .any, .any, .any, .any, .any, .any, .any, .any, .any, .any, .any, .any, .any, .any, .any, .any, .any, .any, .any, .any, .any, .any, .any, .any, .any, .any, .any, .any, .any, .any, .any, .any, .any, .any, .any, .any, .any, .any, .any, .any, .any, .any, .any, .any, .any, .any, .any, .any, .any, .any, .any, .any, .any, .any, .any, .any, .any, .any, .any, .any, .any, .any, .any, .any, .any, .any, .any, .any, .any, .any, .any, .any, .any, .any, .any, .any, .any, .any, .any, .any, .any, .any, .any, .any, .any, .any, .any, .any, .any, .any, .any, .any, .any, .any, .any, .any, .any, .any, .any, .any, .any, .any, .any, .any, .any, .any, .any, .any, .any, .any, .any, .any, .any, .any, .any, .any, .any, .any, .any, .any, .any, .any], [.ex false [.c (.os 1 0 0 1 t26.1 none)] 58, .ex false [.row t26.2.1 (.int .i64) t198] 3, .ex false [.c (.sc (.int .i64 x104)), .c (.fs (.int .i64) x105 false)] 40], 0⟩) (fun t198 => .nil)))))))) (.adj [.keep [0, 10, 12], .drop 3] .nil)))) (.one false (.one false (.one false (.adj [.keep [0, 10, 12], .drop 3] .nil)))))) (to_goal (q := (True) ∧ (True) ∧ (((decide (x106 < (((List.length a1) : Nat) : Int))) = true → ((decide (x106 < (((List.length a1) : Nat) : Int))) = true ∧ (True) ∧ ((decide (x106 < (((List.length a1) : Nat) : Int))) = true ∧ (((decide (x106 < (30 : Int))) = true → (True ∧ (True ∧ (True ∧ (0 ≤ x106 ∧ x106 < (((List.length a1) : Nat) : Int)) ∧ (True) ∧ (True ∧ (0 ≤ x106 ∧ x106 < (((List.length a1) : Nat) : Int)) ∧ (True) ∧ (True) ∧ ((4 : Int) ≠ 0) ∧ (True) ∧ (((True) ∧ True) ∧ ((∃ t191 : (List Int) × Int × (List Int), Trip cfg (cpath (Tryd.f3.body.getD .skip) [1, 1, 1, 1, 1, 1, 1, 1, 1, 0, 1, 0, 0, 1, 0, 0, 1, 0, 1]) ⟨[.v (.one (.sc (.int .i64 a0))), .v (.one (.fs (.pair (.int .i64) (.int .i64)) a1 false)), .any, .any, .any, .any, .any, .any, .any, .any, .v (.one (.ptr 0 ⟨0, 0, 0, 0⟩)), .any, .v (.one (.ptr 2 ⟨0, 0, 0, 0⟩)), .v (.one (.sc (.int .i64 x106))), .v (.one (.sc (.int .i64 (List.getD a1 (Int.toNat x106) ((0 : Int), (0 : Int))).2))), .v (.one (.sc (.int .i64 (IntKind.wrap .i64 ((Int.tmod (IntKind.wrap .u64 ((List.getD a1 (Int.toNat x106) ((0 : Int), (0 : Int))).1)) (4 : Int))))))), .any, .any, .any, .any, .any, .any, .any, .any, .any, .any, .any, .any, .any, .any, .any, .any, .any, .any, .any, .any, .any, .any, .any, .any, .any, .any, .any, .any, .any, .any, .any, .any, .any, .any, .any, .any, .any, .any, .any, .any, .any, .any, .any, .any, .any, .any, .any, .any, .any, .any, .any, .any, .any, .any, .any, .any, .any, .any, .any, .any, .any, .any, .any, .any, .any, .any, .any, .any, .any, .any, .any, .any, .any, .any, .any, .any, .any, .any, .any, .any, .any, .any, .any, .any, .any, .any, .any, .any, .any, .any, .any, .any, .any, .any, .any, .any, .any, .any, .any, .any, .any, .any, .any, .any, .any, .any, .any, .any, .any, .any, .any, .any, .any, .any, .any, .any, .any, .any, .any, .any, .any, .any, .any, .any, .any, .any, .any, .any, .any, .any, .any, .any, .any, .any, .any, .any, .any, .any, .any, .any, .any, .any, .any, .any, .any, .any, .any, .any, .any, .any, .any, .any, .any, .any, .any, .any, .any, .any, .any, .any, .any, .any, .any, .any, .any, .any, .any, .any, .any, .any, .any, .any, .any, .any, .any, .any, .any, .any, .any, .any, .any, .any, .any, .any, .any, .any, .any, .any, .any, .any, .any, .any, .any], [.ex false [.c (.os 1 0 0 1 t26.1 none)] 58, .ex false [.row t26.2.1 (.int .i64) x103] 3, .ex false [.c (.sc (.int .i64 x104)), .c (.fs (.int .i64) x105 false)] 40], 0⟩ (fun e s => e = .normal ∧ s = ⟨[.v (.one (.sc (.int .i64 a0))), .v (.one (.fs (.pair (.int .i64) (.int .i64)) a1 false)), .any, .any, .any, .any, .any, .any, .any, .any, .v (.one (.ptr 0 ⟨0, 0, 0, 0⟩)), .any, .v (.one (.ptr 2 ⟨0, 0, 0, 0⟩)), .v (.one (.sc (.int .i64 x106))), .v (.one (.sc (.int .i64 (List.getD a1 (Int.toNat x106) ((0 : Int), (0 : Int))).2))), .any, .any, .any, .any, .any, .any, .any, .any, .any, .any, .any, .any, .any, .any, .any, .any, .any, .any, .any, .any, .any, .any, .any, .any, .any, .any, .any, .any, .any, .any, .any, .any, .any, .any, .any, .any, .any, .any, .any, .any, .any, .any, .any, .any, .any, .any, .any, .any, .any, .any, .any, .any, .any, .any, .any, .any, .any, .any, .any, .any, .any, .any, .any, .any, .any, .any, .any, .any, .any, .any, .any, .any, .any, .any, .any, .any, .any, .any, .any, .any, .any, .any, .any, .any, .any, .any, .any, .any, .any, .any, .any, .any, .any, .any, .any, .any, .any, .any, .any, .any, .any, .any, .any, .any, .any, .any, .any, .any, .any, .any, .any, .any, .any, .any, .any, .any, .any, .any, .any, .any, .any, .any, .any, .any, .any, .any, .any, .any, .any, .any, .any, .any, .any, .any, .any, .any, .any, .any, .any, .any, .any, .any, .any, .any, .any, .any, .any, .any, .any, .any, .any, .any, .any, .any, .any, .any, .any, .any, .any, .any, .any, .any, .any, .any, .any, .any, .any, .any, .any, .any, .any, .any, .any, .any, .any, .any, .any, .any, .any, .any, .any, .any, .any, .any, .any, .any, .any, .any, .any, .any, .any, .any, .any, .any], [.ex false [.c (.os 1 0 0 1 t26.1 none)] 58, .ex false [.row t26.2.1 (.int .i64) t191.1] 3, .ex false [.c (.sc (.int .i64 t191.2.1)), .c (.fs (.int .i64) (z2 t191) false)] 40], 0⟩) ∧ (∃ t195 : Int, (∃ t196 : Int, (((Fun cfg 10 [.one (.ptr 0 ⟨0, 0, 0, 0⟩), .one (.sc (.int .i64 (List.getD a1 (Int.toNat x106) ((0 : Int), (0 : Int))).2))] [.ex false [.c (.os 1 0 0 1 t26.1 none)] 58, .ex false [.row t26.2.1 (.int .i64) t191.1] 3] (frames_Frames_Refs_v1.R t195) (frames_Frames_Refs_v1.B (List.getD a1 (Int.toNat x106) ((0 : Int), (0 : Int))).2 t26.1 t26.2.1 t191.1 t195) ∧ True) ∧ (True) ∧ (Fun cfg 18 [.agg [.c (.sc (.int .i64 t191.2.1)), .c (.fs (.int .i64) (z2 t191) false)], .one (.sc (.int .i64 (List.getD a1 (Int.toNat x106) ((0 : Int), (0 : Int))).2))] [] (halterref04_Refs.R t196) [] ∧ True) ∧ (True) ∧ (⟨[.v (.one (.sc (.int .i64 a0))), .v (.one (.fs (.pair (.int .i64) (.int .i64)) a1 false)), .any, .any, .any, .any, .any, .any, .any, .any, .v (.one (.ptr 0 ⟨0, 0, 0, 0⟩)), .any, .v (.one (.ptr 2 ⟨0, 0, 0, 0⟩)), .v (.one (.sc (.int .i64 x106))), .v (.one (.sc (.int .i64 (List.getD a1 (Int.toNat x106) ((0 : Int), (0 : Int))).2))), .any, .any, .any, .any, .any, .any, .any, .any, .any, .any, .any, .any, .any, .any, .any, .any, .any, .any, .any, .any, .any, .any, .any, .any, .any, .any, .any, .any, .any, .any, .any, .any, .any, .any, .any, .any, .any, .any, .any, .any, .any, .any, .any, .any, .any, .any, .any, .any, .any, .any, .any, .any, .any, .any, .any, .any, .any, .any, .any, .any, .any, .any, .any, .any, .any, .any, .any, .any, .any, .any, .any, .any, .any, .any, .any, .any, .any, .any, .any, .any, .any, .any, .any, .any, .any, .any, .any, .any, .any, .any, .any, .any, .any, .any, .any, .any, .any, .any, .any, .any, .any, .any, .any, .any, .any, .any, .any, .any, .any, .any, .any, .any, .any, .any, .any, .any, .any, .any, .any, .any, .any, .any, .any, .any, .any, .any, .any, .any, .any, .any, .any, .any, .any, .any, .any, .any, .any, .any, .any, .any, .any, .any, .any, .any, .any, .any, .any, .any, .any, .any, .any, .any, .any, .any, .any, .any, .any, .any, .any, .any, .any, .any, .any, .any, .any, .any, .any, .any, .any, .v (.one (.ptr 0 ⟨0, 0, 0, 0⟩)), .v (.one (.sc (.int .i64 (List.getD a1 (Int.toNat x106) ((0 : Int), (0 : Int))).2))), .v (.one (.sc (.int .i64 t195))), .v (.agg [.c (.sc (.int .i64 t191.2.1)), .c (.fs (.int .i64) (z2 t191) false)]), .v (.one (.sc (.int .i64 (List.getD a1 (Int.toNat x106) ((0 : Int), (0 : Int))).2))), .v (.one (.sc (.int .i64 t196))), .v (.one (.sc (.bool (t195 != t196)))), .any, .any, .any, .any, .any, .any, .any, .any, .any, .any, .any, .any, .any, .any, .any, .any, .any, .any], [.ex false [.c (.os 1 0 0 1 t26.1 none)] 58, .ex false [.row t26.2.1 (.int .i64) t191.1] 3, .ex false [.c (.sc (.int .i64 t191.2.1)), .c (.fs (.int .i64) (z2 t191) false)] 40], 0⟩ : St) = ⟨[.v (.one (.sc (.int .i64 a0))), .v (.one (.fs (.pair (.int .i64) (.int .i64)) a1 false)), .any, .any, .any, .any, .any, .any, .any, .any, .v (.one (.ptr 0 ⟨0, 0, 0, 0⟩)), .any, .v (.one (.ptr 2 ⟨0, 0, 0, 0⟩)), .v (.one (.sc (.int .i64 x106))), .v (.one (.sc (.int .i64 (List.getD a1 (Int.toNat x106) ((0 : Int), (0 : Int))).2))), .any, .any, .any, .any, .any, .any, .any, .any, .any, .any, .any, .any, .any, .any, .any, .any, .any, .any, .any, .any, .any, .any, .any, .any, .any, .any, .any, .any, .any, .any, .any, .any, .any, .any, .any, .any, .any, .any, .any, .any, .any, .any, .any, .any, .any, .any, .any, .any, .any, .any, .any, .any, .any, .any, .any, .any, .any, .any, .any, .any, .any, .any, .any, .any, .any, .any, .any, .any, .any, .any, .any, .any, .any, .any, .any, .any, .any, .any, .any, .any, .any, .any, .any, .any, .any, .any, .any, .any, .any, .any, .any, .any, .any, .any, .any, .any, .any, .any, .any, .any, .any, .any, .any, .any, .any, .any, .any, .any, .any, .any, .any, .any, .any, .any, .any, .any, .any, .any, .any, .any, .any, .any, .any, .any, .any, .any, .any, .any, .any, .any, .any, .any, .any, .any, .any, .any, .any, .any, .any, .any, .any, .any, .any, .any, .any, .any, .any, .any, .any, .any, .any, .any, .any, .any, .any, .any, .any, .any, .any, .any, .any, .any, .any, .any, .any, .any, .any, .any, .any, .v (.one (.ptr 0 ⟨0, 0, 0, 0⟩)), .v (.one (.sc (.int .i64 (List.getD a1 (Int.toNat x106) ((0 : Int), (0 : Int))).2))), .v (.one (.sc (.int .i64 t195))), .v (.agg [.c (.sc (.int .i64 t191.2.1)), .c (.fs (.int .i64) (z2 t191) false)]), .v (.one (.sc (.int .i64 (List.getD a1 (Int.toNat x106) ((0 : Int), (0 : Int))).2))), .v (.one (.sc (.int .i64 t196))), .v (.one (.sc (.bool (t195 != t196)))), .any, .any, .any, .any, .any, .any, .any, .any, .any, .any, .any, .any, .any, .any, .any, .any, .any, .any], [.ex false [.c (.os 1 0 0 1 t26.1 none)] 58, .ex false [.row t26.2.1 (.int .i64) t191.1] 3, .ex false [.c (.sc (.int .i64 t191.2.1)), .c (.fs (.int .i64) (z2 t191) false)] 40], 0⟩) ∧ (((True) ∧ (Fun cfg 10 [.one (.ptr 0 ⟨0, 0, 0, 0⟩), .one (.sc (.int .i64 (List.getD a1 (Int.toNat x106) ((0 : Int), (0 : Int))).2))] [.ex false [.c (.os 1 0 0 1 t26.1 none)] 58, .ex false [.row t26.2.1 (.int .i64) t191.1] 3] (frames_Frames_Refs_v1.R t195) (frames_Frames_Refs_v1.B (List.getD a1 (Int.toNat x106) ((0 : Int), (0 : Int))).2 t26.1 t26.2.1 t191.1 t195) ∧ True) ∧ (Fun cfg 18 [.agg [.c (.sc (.int .i64 t191.2.1)), .c (.fs (.int .i64) (z2 t191) false)], .one (.sc (.int .i64 (List.getD a1 (Int.toNat x106) ((0 : Int), (0 : Int))).2))] [] (halterref04_Refs.R t196) [] ∧ True) ∧ (True) ∧ True ∧ (⟨[.v (.one (.sc (.int .i64 a0))), .v (.one (.fs (.pair (.int .i64) (.int .i64)) a1 false)), .any, .any, .any, .any, .any, .any, .any, .any, .v (.one (.ptr 0 ⟨0, 0, 0, 0⟩)), .any, .v (.one (.ptr 2 ⟨0, 0, 0, 0⟩)), .v (.one (.sc (.int .i64 x106))), .v (.one (.sc (.int .i64 (List.getD a1 (Int.toNat x106) ((0 : Int), (0 : Int))).2))), .any, .any, .any, .any, .any, .any, .any, .any, .any, .any, .any, .any, .any, .any, .any, .any, .any, .any, .any, .any, .any, .any, .any, .any, .any, .any, .any, .any, .any, .any, .any, .any, .any, .any, .any, .any, .any, .any, .any, .any, .any, .any, .any, .any, .any, .any, .any, .any, .any, .any, .any, .any, .any, .any, .any, .any, .any, .any, .any, .any, .any, .any, .any, .any, .any, .any, .any, .any, .any, .any, .any, .any, .any, .any, .any, .any, .any, .any, .any, .any, .any, .any, .any, .any, .any, .any, .any, .any, .any, .any, .any, .any, .any, .any, .any, .any, .any, .any, .any, .any, .any, .any, .any, .any, .any, .any, .any, .any, .any, .any, .any, .any, .any, .any, .any, .any, .any, .any, .any, .any, .any, .any, .any, .any, .any, .any, .any, .any, .any, .any, .any, .any, .any, .any, .any, .any, .any, .any, .any, .any, .any, .any, .any, .any, .any, .any, .any, .any, .any, .any, .any, .any, .any, .any, .any, .any, .any, .any, .any, .any, .any, .any, .any, .any, .any, .any, .any, .any, .any, .v (.one (.ptr 0 ⟨0, 0, 0, 0⟩)), .v (.one (.sc (.int .i64 (List.getD a1 (Int.toNat x106) ((0 : Int), (0 : Int))).2))), .v (.one (.sc (.int .i64 t195))), .v (.agg [.c (.sc (.int .i64 t191.2.1)), .c (.fs (.int .i64) (z2 t191) false)]), .v (.one (.sc (.int .i64 (List.getD a1 (Int.toNat x106) ((0 : Int), (0 : Int))).2))), .v (.one (.sc (.int .i64 t196))), .v (.one (.sc (.bool (t195 != t196)))), .any, .any, .any, .any, .any, .any, .any, .any, .any, .any, .any, .any, .any, .any, .any, .any, .any, .any], [.ex false [.c (.os 1 0 0 1 t26.1 none)] 58, .ex false [.row t26.2.1 (.int .i64) t191.1] 3, .ex false [.c (.sc (.int .i64 t191.2.1)), .c (.fs (.int .i64) (z2 t191) false)] 40], 0⟩ : St) = ⟨[.v (.one (.sc (.int .i64 a0))), .v (.one (.fs (.pair (.int .i64) (.int .i64)) a1 false)), .any, .any, .any, .any, .any, .any, .any, .any, .v (.one (.ptr 0 ⟨0, 0, 0, 0⟩)), .any, .v (.one (.ptr 2 ⟨0, 0, 0, 0⟩)), .v (.one (.sc (.int .i64 x106))), .v (.one (.sc (.int .i64 (List.getD a1 (Int.toNat x106) ((0 : Int), (0 : Int))).2))), .any, .any, .any, .any, .any, .any, .any, .any, .any, .any, .any, .any, .any, .any, .any, .any, .any, .any, .any, .any, .any, .any, .any, .any, .any, .any, .any, .any, .any, .any, .any, .any, .any, .any, .any, .any, .any, .any, .any, .any, .any, .any, .any, .any, .any, .any, .any, .any, .any, .any, .any, .any, .any, .any, .any, .any, .any, .any, .any, .any, .any, .any, .any, .any, .any, .any, .any, .any, .any, .any, .any, .any, .any, .any, .any, .any, .any, .any, .any, .any, .any, .any, .any, .any, .any, .any, .any, .any, .any, .any, .any, .any, .any, .any, .any, .any, .any, .any, .any, .any, .any, .any, .any, .any, .any, .any, .any, .any, .any, .any, .any, .any, .any, .any, .any, .any, .any, .any, .any, .any, .any, .any, .any, .any, .any, .any, .any, .any, .any, .any, .any, .any, .any, .any, .any, .any, .any, .any, .any, .any, .any, .any, .any, .any, .any, .any, .any, .any, .any, .any, .any, .any, .any, .any, .any, .any, .any, .any, .any, .any, .any, .any, .any, .any, .any, .any, .any, .any, .any, .v (.one (.ptr 0 ⟨0, 0, 0, 0⟩)), .v (.one (.sc (.int .i64 (List.getD a1 (Int.toNat x106) ((0 : Int), (0 : Int))).2))), .v (.one (.sc (.int .i64 t195))), .v (.agg [.c (.sc (.int .i64 t191.2.1)), .c (.fs (.int .i64) (z2 t191) false)]), .v (.one (.sc (.int .i64 (List.getD a1 (Int.toNat x106) ((0 : Int), (0 : Int))).2))), .v (.one (.sc (.int .i64 t196))), .v (.one (.sc (.bool (t195 != t196)))), .any, .any, .any, .any, .any, .any, .any, .any, .any, .any, .any, .any, .any, .any, .any, .any, .any, .any], [.ex false [.c (.os 1 0 0 1 t26.1 none)] 58, .ex false [.row t26.2.1 (.int .i64) t191.1] 3, .ex false [.c (.sc (.int .i64 t191.2.1)), .c (.fs (.int .i64) (z2 t191) false)] 40], 0⟩) ∧ True) ∧ (((t195 != t196) = true → (True ∧ (((True) ∧ (True) ∧ True) ∧ halterlaw04_FramesRun.l0_Q t26 a0 a1 r .ret ⟨[.any, .any, .any, .any, .v (.one (.sc (.bool false))), .any, .any, .any, .any, .any, .any, .any, .any, .any, .any, .any, .any, .any, .any, .any, .any, .any, .any, .any, .any, .any, .any, .any, .any, .any, .any, .any, .any, .any, .any, .any, .any, .any, .any, .any, .any, .any, .any, .any, .any, .any, .any, .any, .any, .any, .any, .any, .any, .any, .any, .any, .any, .any, .any, .any, .any, .any, .any, .any, .any, .any, .any, .any, .any, .any, .any, .any, .any, .any, .any, .any, .any, .any, .any, .any, .any, .any, .any, .any, .any, .any, .any, .any, .any, .any, .any, .any, .any, .any, .any, .any, .any, .any, .any, .any, .any, .any, .any, .any, .any, .any, .any, .any, .any, .any, .any, .any, .any, .any, .any, .any, .any, .any, .any, .any, .any, .any, .any, .any, .any, .any, .any, .any, .any, .any, .any, .any, .any, .any, .any, .any, .any, .any, .any, .any, .any, .any, .any, .any, .any, .any, .any, .any, .any, .any, .any, .any, .any, .any, .any, .any, .any, .any, .any, .any, .any, .any, .any, .any, .any, .any, .any, .any, .any, .any, .any, .any, .any, .any, .any, .any, .any, .any, .any, .any, .any, .any, .any, .any, .any, .any, .any, .any, .any, .any, .any, .any, .any, .any, .any, .any, .any, .any, .any, .any, .any, .any, .any, .any, .any, .any, .any, .any, .any], [.ex false [.c (.os 1 0 0 1 t26.1 none)] 58, .ex false [.row t26.2.1 (.int .i64) t191.1] 3, .ex false [.c (.sc (.int .i64 t191.2.1)), .c (.fs (.int .i64) (z2 t191) false)] 40], 0⟩))) ∧ ((t195 != t196) = false → (True ∧ (True ∧ (True) ∧ (((True) ∧ (True) ∧ True) ∧ TripN cfg (cpath (Tryd.f3.body.getD .skip) [1, 1, 1, 1, 1, 1, 1, 1, 1, 0, 1, 0, 0]) n (halterlaw04_FramesRun.l0_S t26 a0 a1 t191.1 t191.2.1 (z2 t191) (IntKind.wrap .i64 (x106 + (1 : Int)))) (halterlaw04_FramesRun.l0_Q t26 a0 a1 r)))))))))) ∨ (∃ t198 : (List Int), Trip cfg (cpath (Tryd.f3.body.getD .skip) [1, 1, 1, 1, 1, 1, 1, 1, 1, 0, 1, 0, 0, 1, 0, 0, 1, 0, 1]) ⟨[.v (.one (.sc (.int .i64 a0))), .v (.one (.fs (.pair (.int .i64) (.int .i64)) a1 false)), .any, .any, .any, .any, .any, .any, .any, .any, .v (.one (.ptr 0 ⟨0, 0, 0, 0⟩)), .any, .v (.one (.ptr 2 ⟨0, 0, 0, 0⟩)), .v (.one (.sc (.int .i64 x106))), .v (.one (.sc (.int .i64 (List.getD a1 (Int.toNat x106) ((0 : Int), (0 : Int))).2))), .v (.one (.sc (.int .i64 (IntKind.wrap .i64 ((Int.tmod (IntKind.wrap .u64 ((List.getD a1 (Int.toNat x106) ((0 : Int), (0 : Int))).1)) (4 : Int))))))), .any, .any, .any, .any, .any, .any, .any, .any, .any, .any, .any, .any, .any, .any, .any, .any, .any, .any, .any, .any, .any, .any, .any, .any, .any, .any, .any, .any, .any, .any, .any, .any, .any, .any, .any, .any, .any, .any, .any, .any, .any, .any, .any, .any, .any, .any, .any, .any, .any, .any, .any, .any, .any, .any, .any, .any, .any, .any, .any, .any, .any, .any, .any, .any, .any, .any, .any, .any, .any, .any, .any, .any, .any, .any, .any, .any, .any, .any, .any, .any, .any, .any, .any, .any, .any, .any, .any, .any, .any, .any, .any, .any, .any, .any, .any, .any, .any, .any, .any, .any, .any, .any, .any, .any, .any, .any, .any, .any, .any, .any, .any, .any, .any, .any, .any, .any, .any, .any, .any, .any, .any, .any, .any, .any, .any, .any, .any, .any, .any, .any, .any, .any, .any, .any, .any, .any, .any, .any, .any, .any, .any, .any, .any, .any, .any, .any, .any, .any, .any, .any, .any, .any, .any, .any, .any, .any, .any, .any, .any, .any, .any, .any, .any, .any, .any, .any, .any, .any, .any, .any, .any, .any, .any, .any, .any, .any, .any, .any, .any, .any, .any, .any, .any, .any, .any, .any, .any, .any, .any, .any, .any, .any, .any], [.ex false [.c (.os 1 0 0 1 t26.1 none)] 58, .ex false [.row t26.2.1 (.int .i64) x103] 3, .ex false [.c (.sc (.int .i64 x104)), .c (.fs (.int .i64) x105 false)] 40], 0⟩ (fun e s => e = .ret ∧ s = ⟨[.any, .any, .any, .any, .v (.one (.sc (.bool false))), .any, .any, .any, .any, .any, .any, .any, .any, .any, .any, .any, .any, .any, .any, .any, .any, .any, .any, .any, .any, .any, .any, .any, .any, .any, .any, .any, .any, .any, .any, .any, .any, .any, .any, .any, .any, .any, .any, .any, .any, .any, .any, .any, .any, .any, .any, .any, .any, .any, .any, .any, .any, .any, .any, .any, .any, .any, .any, .any, .any, .any, .any, .any, .any, .any, .any, .any, .any, .any, .any, .any, .any, .any, .any, .any, .any, .any, .any, .any, .any, .any, .any, .any, .any, .any, .any, .any, .any, .any, .any, .any, .any, .any, .any, .any, .any, .any, .any, .any, .any, .any, .any, .any, .any, .any, .any, .any, .any, .any, .any, .any, .any, .any, .any, .any, .any, .any, .any, .any, .any, .any, .any, .any, .any, .any, .any, .any, .any, .any, .any, .any, .any, .any, .any, .any, .any, .any, .any, .any, .any, .any, .any, .any, .any, .any, .any, .any, .any, .any, .any, .any, .any, .any, .any, .any, .any, .any, .any, .any, .any, .any, .any, .any, .any, .any, .any, .any, .any, .any, .any, .any, .any, .any, .any, .any, .any, .any, .any, .any, .any, .any, .any, .any, .any, .any, .any, .any, .any, .any, .any, .any, .any, .any, .any, .any, .any, .any, .any, .any, .any, .any, .any, .any, .any], [.ex false [.c (.os 1 0 0 1 t26.1 none)] 58, .ex false [.row t26.2.1 (.int .i64) t198] 3, .ex false [.c (.sc (.int .i64 x104)), .c (.fs (.int .i64) x105 false)] 40], 0⟩) ∧ (halterlaw04_FramesRun.l0_Q t26 a0 a1 r .ret ⟨[.any, .any, .any, .any, .v (.one (.sc (.bool false))), .any, .any, .any, .any, .any, .any, .any, .any, .any, .any, .any, .any, .any, .any, .any, .any, .any, .any, .any, .any, .any, .any, .any, .any, .any, .any, .any, .any, .any, .any, .any, .any, .any, .any, .any, .any, .any, .any, .any, .any, .any, .any, .any, .any, .any, .any, .any, .any, .any, .any, .any, .any, .any, .any, .any, .any, .any, .any, .any, .any, .any, .any, .any, .any, .any, .any, .any, .any, .any, .any, .any, .any, .any, .any, .any, .any, .any, .any, .any, .any, .any, .any, .any, .any, .any, .any, .any, .any, .any, .any, .any, .any, .any, .any, .any, .any, .any, .any, .any, .any, .any, .any, .any, .any, .any, .any, .any, .any, .any, .any, .any, .any, .any, .any, .any, .any, .any, .any, .any, .any, .any, .any, .any, .any, .any, .any, .any, .any, .any, .any, .any, .any, .any, .any, .any, .any, .any, .any, .any, .any, .any, .any, .any, .any, .any, .any, .any, .any, .any, .any, .any, .any, .any, .any, .any, .any, .any, .any, .any, .any, .any, .any, .any, .any, .any, .any, .any, .any, .any, .any, .any, .any, .any, .any, .any, .any, .any, .any, .any, .any, .any, .any, .any, .any, .any, .any, .any, .any, .any, .any, .any, .any, .any, .any, .any, .any, .any, .any, .any, .any, .any, .any, .any, .any], [.ex false [.c (.os 1 0 0 1 t26.1 none)] 58, .ex false [.row t26.2.1 (.int .i64) t198] 3, .ex false [.c (.sc (.int .i64 x104)), .c (.fs (.int .i64) x105 false)] 40], 0⟩))))))))) ∧ ((decide (x106 < (30 : Int))) = false → (((True) ∧ (True) ∧ True) ∧ halterlaw04_FramesRun.l0_Q t26 a0 a1 r (.exit 0) ⟨[.v (.one (.sc (.int .i64 a0))), .any, .any, .any, .any, .any, .any, .any, .any, .any, .v (.one (.ptr 0 ⟨0, 0, 0, 0⟩)), .any, .v (.one (.ptr 2 ⟨0, 0, 0, 0⟩)), .any, .any, .any, .any, .any, .any, .any, .any, .any, .any, .any, .any, .any, .any, .any, .any, .any, .any, .any, .any, .any, .any, .any, .any, .any, .any, .any, .any, .any, .any, .any, .any, .any, .any, .any, .any, .any, .any, .any, .any, .any, .any, .any, .any, .any, .any, .any, .any, .any, .any, .any, .any, .any, .any, .any, .any, .any, .any, .any, .any, .any, .any, .any, .any, .any, .any, .any, .any, .any, .any, .any, .any, .any, .any, .any, .any, .any, .any, .any, .any, .any, .any, .any, .any, .any, .any, .any, .any, .any, .any, .any, .any, .any, .any, .any, .any, .any, .any, .any, .any, .any, .any, .any, .any, .any, .any, .any, .any, .any, .any, .any, .any, .any, .any, .any, .any, .any, .any, .any, .any, .any, .any, .any, .any, .any, .any, .any, .any, .any, .any, .any, .any, .any, .any, .any, .any, .any, .any, .any, .any, .any, .any, .any, .any, .any, .any, .any, .any, .any, .any, .any, .any, .any, .any, .any, .any, .any, .any, .any, .any, .any, .any, .any, .any, .any, .any, .any, .any, .any, .any, .any, .any, .any, .any, .any, .any, .any, .any, .any, .any, .any, .any, .any, .any, .any, .any, .any, .any, .any, .any, .any, .any, .any, .any, .any, .any], [.ex false [.c (.os 1 0 0 1 t26.1 none)] 58, .ex false [.row t26.2.1 (.int .i64) x103] 3, .ex false [.c (.sc (.int .i64 x104)), .c (.fs (.int .i64) x105 false)] 40], 0⟩)))))) ∧ ((decide (x106 < (((List.length a1) : Nat) : Int))) = false → ((decide (x106 < (((List.length a1) : Nat) : Int))) = false ∧ ((decide (x106 < (((List.length a1) : Nat) : Int))) = false ∧ (false = false ∧ (((True) ∧ (True) ∧ True) ∧ halterlaw04_FramesRun.l0_Q t26 a0 a1 r (.exit 0) ⟨[.v (.one (.sc (.int .i64 a0))), .any, .any, .any, .any, .any, .any, .any, .any, .any, .v (.one (.ptr 0 ⟨0, 0, 0, 0⟩)), .any, .v (.one (.ptr 2 ⟨0, 0, 0, 0⟩)), .any, .any, .any, .any, .any, .any, .any, .any, .any, .any, .any, .any, .any, .any, .any, .any, .any, .any, .any, .any, .any, .any, .any, .any, .any, .any, .any, .any, .any, .any, .any, .any, .any, .any, .any, .any, .any, .any, .any, .any, .any, .any, .any, .any, .any, .any, .any, .any, .any, .any, .any, .any, .any, .any, .any, .any, .any, .any, .any, .any, .any, .any, .any, .any, .any, .any, .any, .any, .any, .any, .any, .any, .any, .any, .any, .any, .any, .any, .any, .any, .any, .any, .any, .any, .any, .any, .any, .any, .any, .any, .any, .any, .any, .any, .any, .any, .any, .any, .any, .any, .any, .any, .any, .any, .any, .any, .any, .any, .any, .any, .any, .any, .any, .any, .any, .any, .any, .any, .any, .any, .any, .any, .any, .any, .any, .any, .any, .any, .any, .any, .any, .any, .any, .any, .any, .any, .any, .any, .any, .any, .any, .any, .any, .any, .any, .any, .any, .any, .any, .any, .any, .any, .any, .any, .any, .any, .any, .any, .any, .any, .any, .any, .any, .any, .any, .any, .any, .any, .any, .any, .any, .any, .any, .any, .any, .any, .any, .any, .any, .any, .any, .any, .any, .any, .any, .any, .any, .any, .any, .any, .any, .any, .any, .any, .any, .any], [.ex false [.c (.os 1 0 0 1 t26.1 none)] 58, .ex false [.row t26.2.1 (.int .i64) x103] 3, .ex false [.c (.sc (.int .i64 x104)), .c (.fs (.int .i64) x105 false)] 40], 0⟩))))))) (by kernel_rfl) ?_)
    refine ⟨trivial, ?_⟩
    refine ⟨trivial, ?_⟩
    refine ⟨fun b148 => ?_, fun b148 => ?_⟩
    · rw [if_pos (of_decide_eq_true b148)] at h
      refine ⟨b148, ?_⟩
      refine ⟨trivial, ?_⟩
      refine ⟨b148, ?_⟩
      refine ⟨fun b149 => ?_, fun b149 => ?_⟩
      · rw [if_pos (of_decide_eq_true b149)] at h
        refine ⟨trivial, ?_⟩
        refine ⟨trivial, ?_⟩
        refine ⟨trivial, ?_⟩
        obtain ⟨g201, h⟩ := of_guard h
        refine ⟨g201, ?_⟩
        refine ⟨trivial, ?_⟩
        refine ⟨trivial, ?_⟩
        obtain ⟨g200, h⟩ := of_guard h
        refine ⟨g200, ?_⟩
        refine ⟨trivial, ?_⟩
        refine ⟨trivial, ?_⟩
        refine ⟨(by decide), ?_⟩
        refine ⟨trivial, ?_⟩
        obtain ⟨t170, ht170, h⟩ := of_bind h
        refine ⟨⟨trivial, trivial⟩, ?_⟩
        rcases t170 with t191 | t198
        · dsimp only at h
          left
          refine ⟨t191, halterlaw04_FramesRun.j1_ok t26 x103 x104 x105 x106 a0 a1 (.inl t191) ht170, ?_⟩
          obtain ⟨t195, ht195, h⟩ := of_bind h
          refine ⟨t195, ?_⟩
          obtain ⟨t196, ht196, h⟩ := of_bind h
          refine ⟨t196, ?_⟩
          refine ⟨⟨⟨frames_Frames_Refs_v1.fun_ ht195, trivial⟩, trivial, ⟨halterref04_Refs.fun_ ht196, trivial⟩, trivial, rfl⟩, ⟨⟨trivial, ⟨frames_Frames_Refs_v1.fun_ ht195, trivial⟩, ⟨halterref04_Refs.fun_ ht196, trivial⟩, trivial, trivial, rfl⟩, trivial⟩, ?_⟩
          refine ⟨fun b197 => ?_, fun b197 => ?_⟩
          · rw [if_pos (bne_t b197)] at h
            refine ⟨trivial, ?_⟩
            obtain rfl := Option.some.inj h
            exact ⟨⟨trivial, trivial, trivial⟩, rfl, rfl⟩
          · rw [if_neg (not_not_intro (bne_f b197))] at h
            refine ⟨trivial, ?_⟩
            refine ⟨trivial, ?_⟩
            refine ⟨trivial, ?_⟩
            exact ⟨⟨trivial, trivial, trivial⟩, ih t191.1 t191.2.1 t191.2.2 (IntKind.wrap .i64 (x106 + (1 : Int))) r h⟩
        · dsimp only at h
          right
          refine ⟨t198, halterlaw04_FramesRun.j1_ok t26 x103 x104 x105 x106 a0 a1 (.inr t198) ht170, ?_⟩
          obtain rfl := Option.some.inj h
          exact ⟨rfl, rfl⟩
      · rw [if_neg (of_decide_eq_false b149)] at h
        obtain rfl := Option.some.inj h
        exact ⟨⟨trivial, trivial, trivial⟩, rfl, rfl⟩
    · rw [if_neg (of_decide_eq_false b148)] at h
      refine ⟨b148, ?_⟩
      refine ⟨b148, ?_⟩
      refine ⟨rfl, ?_⟩
      obtain rfl := Option.some.inj h
      exact ⟨⟨trivial, trivial, trivial⟩, rfl, rfl⟩
def halterlaw04_FramesRun.f (a0 : Int) (a1 : (List (Int × Int))) : Option Bool :=
  frames_Frames_Alloc.f.bind fun t1 =>
  (frames_Frames_Unref.f (0 : Int)).bind fun t2 =>
  (num.f t1.2).bind fun t3 =>
  if ¬ t3 = (22 : Int) then
    some false
  else
    (num.f t2.2).bind fun t5 =>
    if ¬ t5 = (22 : Int) then
      some false
    else
      (frames_Frames_Ref.f (0 : Int)).bind fun t7 =>
      (num.f t7).bind fun t8 =>
      if ¬ t8 = (22 : Int) then
        some false
      else
        (frames_Frames_Refs.f (0 : Int)).bind fun t10 =>
        if ¬ t10 = (0 : Int) then
          some false
        else
          frames_Frames_Free.f.bind fun t12 =>
          if ¬ t12 = (0 : Int) then
            some false
          else
            frames_Frames_Taken.f.bind fun t14 =>
            if ¬ (((List.length t14) : Nat) : Int) = (0 : Int) then
              some false
            else
              (frames_New.f a0).bind fun t16 =>
              match t16 with
              | .inl t17 =>
                if a0 < (1 : Int) then
                  (num.f (some t17)).bind fun t19 =>
                  if t19 = (22 : Int) then
                    halterlaw04_sure.f.bind fun t21 =>
                    some t21
                  else
                    some false
                else
                  if a0 > (1024 : Int) then
                    (num.f (some t17)).bind fun t23 =>
                    if t23 = (22 : Int) then
                      halterlaw04_sure.f.bind fun t25 =>
                      some t25
                    else
                      some false
                  else
                    some false
              | .inr t26 =>
                if a0 < (1 : Int) then
                  (num.f none).bind fun t28 =>
                  if t28 = (22 : Int) then
                    some false
                  else
                    some false
                else
                  if a0 > (1024 : Int) then
                    (num.f none).bind fun t31 =>
                    if t31 = (22 : Int) then
                      some false
                    else
                      some false
                  else
                    (halterlaw04_FramesRun.l0 t26 a0 a1 FUEL t26.2.2 a0 ([] : List Int) (0 : Int)).bind fun t147 =>
                    match t147 with
                    | .inl t208 =>
                      (halterref04_Taken.f t208.2.1 t208.2.2).bind fun t212 =>
                      (frames_Frames_Taken_v1.f t26.1 t26.2.1 t208.1).bind fun t213 =>
                      (halterlaw04_ints.f t213 t212).bind fun t214 =>
                      if t214 = true then
                        (frames_Frames_Free_v1.f t26.1 t26.2.1 t208.1).bind fun t216 =>
                        if t216 = (IntKind.wrap .i64 (a0 - (((List.length t212) : Nat) : Int))) then
                          halterlaw04_sure.f.bind fun t218 =>
                          some t218
                        else
                          some false
                      else
                        some false
                    | .inr t219 =>
                      some false
def halterlaw04_FramesRun.R (r : Bool) : Tm := .v (.one (.sc (.bool r)))
theorem halterlaw04_FramesRun.fun_ {a0 : Int} {a1 : (List (Int × Int))} {r : Bool} (h : halterlaw04_FramesRun.f a0 a1 = some r) : Fun cfg 3 [.one (.sc (.int .i64 a0)), .one (.fs (.pair (.int .i64) (.int .i64)) a1 false)] [] (halterlaw04_FramesRun.R r) [] := by
  unfold halterlaw04_FramesRun.f at h
  refine fun_of_run cfg_ok (f := 3) (fn := Tryd.f3) Tryd.func3 rfl (by kernel_rfl) (rs := [.tmp 4]) rfl (nt := 209) rfl (l := fin) (k := (.callR true [] [] (Int × (Option Int)) (fun t1 => (frames_Frames_Alloc.R t1)) (fun t1 => (frames_Frames_Alloc.B t1)) (fun t1 => (.callR true [] [] (Bool × (Option Int)) (fun t2 => (frames_Frames_Unref.R t2)) (fun t2 => (frames_Frames_Unref.B (0 : Int) t2)) (fun t2 => (.call true [] (Int) (fun t3 => num.R t3) (fun t3 => (.br (.one true (.one true (.one true (.one true (.one true (.one true (.one true (.one true (.one true (.one true (.one true (.one true (.one true (.one true (.one true (.one true (.one true (.one true (.one true (.one true (.one true (.one true (.adj [] (.adj [] (.adj [] .nil))))))))))))))))))))))))) (.one false (.call true [] (Int) (fun t5 => num.R t5) (fun t5 => (.one false (.one false (.br (.one true (.one true (.one true (.one true (.one true (.one true (.one true (.one true (.one true (.one true (.one true (.one true (.one true (.one true (.one true (.one true (.one true (.one true (.adj [] (.adj [] (.adj [] .nil))))))))))))))))))))) (.one false (.callR true [] [] ((Option Int)) (fun t7 => (frames_Frames_Ref.R t7)) (fun t7 => (frames_Frames_Ref.B (0 : Int) t7)) (fun t7 => (.one false (.call true [] (Int) (fun t8 => num.R t8) (fun t8 => (.one false (.one false (.br (.one true (.one true (.one true (.one true (.one true (.one true (.one true (.one true (.one true (.one true (.one true (.one true (.one true (.adj [] (.adj [] (.adj [] .nil)))))))))))))))) (.one false (.callR true [] [] (Int) (fun t10 => (frames_Frames_Refs.R t10)) (fun t10 => (frames_Frames_Refs.B (0 : Int) t10)) (fun t10 => (.one false (.one false (.br (.one true (.one true (.one true (.one true (.one true (.one true (.one true (.one true (.one true (.adj [] (.adj [] (.adj [] .nil)))))))))))) (.one false (.callR true [] [] (Int) (fun t12 => (frames_Frames_Free.R t12)) (fun t12 => (frames_Frames_Free.B t12)) (fun t12 => (.one false (.one false (.br (.one true (.one true (.one true (.one true (.one true (.adj [] (.adj [] (.adj [] .nil)))))))) (.one false (.callR true [] [] ((List Int)) (fun t14 => (frames_Frames_Taken.R t14)) (fun t14 => (frames_Frames_Taken.B t14)) (fun t14 => (.one false (.one false (.one false (.br (.adj [] (.adj [] (.adj [] .nil))) (.alt (.callR true [] [] (Int) (fun t17 => (frames_New.R (.inl t17))) (fun t17 => (frames_New.B a0 (.inl t17))) (fun t17 => (.br (.one true (.one true (.one true (.call true [] (Int) (fun t19 => num.R t19) (fun t19 => (.br (.one true (.one true (.one true (.call true [] (Bool) (fun t21 => halterlaw04_sure.R t21) (fun t21 => (.one true (.adj [] (.adj [] .nil)))))))) (.one false (.one false (.one false (.one false (.adj [] (.adj [] .nil)))))))))))) (.one false (.one false (.br (.call true [] (Int) (fun t23 => num.R t23) (fun t23 => (.br (.one true (.one true (.one true (.call true [] (Bool) (fun t25 => halterlaw04_sure.R t25) (fun t25 => (.one true (.adj [] (.adj [] .nil)))))))) (.one false (.one false (.one false (.one false (.adj [] (.adj [] .nil))))))))) (.one true (.one true (.one true (.one true (.adj [] (.adj [] (.adj [] .nil))))))))))))) (.callR true [] [] (Nat × Nat × (List Int)) (fun t26 => (frames_New.R (.inr t26))) (fun t26 => (frames_New.B a0 (.inr t26))) (fun t26 => (.br (.one true (.one true (.one true (.call true [] (Int) (fun t28 => num.R t28) (fun t28 => (.br (.one true (.one true (.one false (.one false (.adj [] (.adj [.drop 0] .nil)))))) (.one false (.one false (.one false (.one false (.adj [] (.adj [.drop 0] .nil)))))))))))) (.one false (.one false (.br (.call true [] (Int) (fun t31 => num.R t31) (fun t31 => (.br (.one true (.one true (.one false (.one false (.adj [] (.adj [.drop 0] .nil)))))) (.one false (.one false (.one false (.one false (.adj [] (.adj [.drop 0] .nil))))))))) (.one false (.one false (.one false (.one false (.adj [] (.adj [] (.adj [] (.adj [] (.adj [.keep [0, 1, 10, 12, 13], .coB 2 true [(.int .i64)]] (.alt (.sub ((List Int) × Int × (List Int)) (fun _ => (.exit 0)) (fun t208 => ⟨[.v (.one (.sc (.int .i64 a0))), .any, .any, .any, .any, .any, .any, .any, .any, .any, .v (.one (.ptr 0 ⟨0, 0, 0, 0⟩)), .any, .v (.one (.ptr 2 ⟨0, 0, 0, 0⟩)), .any, .any, .any, .any, .any, .any, .any, .any, .any, .any, .any, .any, .any, .any, .any, .any, .any, .any, .any, .any, .any, .any, .any, .any, .any, .any, .any, .any, .any, .any, .any, .any, .any, .any, .any, .any, .any, .any, .any, .any, .any, .any, .any, .any, .any, .any, .any, .any, .any, .any, .any, .any, .any, .any, .any, .any, .any, .any, .any, .any, .any, .any, .any, .any, .any, .any, .any, .any, .any, .any, .any, .any, .any, .any, .any, .any, .any, .any, .any, .any, .any, .any, .any, .any, .any, .any, .any, .any, .any, .any, .any, .any, .any, .any, .any, .any, .any, .any, .any, .any, .any, .any, .any, .any, .any, .any, .any, .any, .any, .any, .any, .any, .any, .any, .any, .any, .any, .any, .any, .any, .any, .any, .any, .any, .any, .any, .any, .any, .any, .any, .any, .any, .any, .any, .any, .any, .any, .any, .any, .any, .any, .any, .any, .any, .any, .any, .any, .any, .any, .any, .any, .any, .any, .any, .any, .any, .any, .any, .any, .any, .any, .any, .any, .any, .any, .any, .any, .any, .any, .any, .any, .any, .any, .any, .any, .any, .any, .any, .any, .any, .any, .any, .any, .any, .any, .any, .any, .any, .any, .any, .any, .any, .any, .any, .any, .any], [.ex false [.c (.os 1 0 0 1 t26.1 none)] 58, .ex false [.row t26.2.1 (.int .i64) t208.1] 3, .ex false [.c (.sc (.int .i64 t208.2.1)), .c (.fs (.int .i64) (z2 t208) false)] 40], 0⟩) (fun t208 => (.call true [] ((List Int)) (fun t212 => halterref04_Taken.R t212) (fun t212 => (.callR true [] [0, 1] ((List Int)) (fun t213 => (frames_Frames_Taken_v1.R t213)) (fun t213 => (frames_Frames_Taken_v1.B t26.1 t26.2.1 t208.1 t213)) (fun t213 => (.call true [] (Bool) (fun t214 => halterlaw04_ints.R t214) (fun t214 => (.br (.one true (.callR true [] [0, 1] (Int) (fun t216 => (frames_Frames_Free_v1.R t216)) (fun t216 => (frames_Frames_Free_v1.B t26.1 t26.2.1 t208.1 t216)) (fun t216 => (.one true (.one true (.one true (.one true (.one true (.one true (.br (.call true [] (Bool) (fun t218 => halterlaw04_sure.R t218) (fun t218 => (.one true (.adj [] (.adj [.drop 0] .nil))))) (.one false (.adj [] (.adj [.drop 0] .nil))))))))))))) (.one false (.one false (.one false (.one false (.one false (.one false (.one false (.one false (.one false (.adj [] (.adj [.drop 0] .nil)))))))))))))))))))) (.sub ((List Int) × Int × (List Int)) (fun _ => .ret) (fun t219 => ⟨[.any, .any, .any, .any, .v (.one (.sc (.bool false))), .any, .any, .any, .any, .any, .any, .any, .any, .any, .any, .any, .any, .any, .any, .any, .any, .any, .any, .any, .any, .any, .any, .any, .any, .any, .any, .any, .any, .any, .any, .any, .any, .any, .any, .any, .any, .any, .any, .any, .any, .any, .any, .any, .any, .any, .any, .any, .any, .any, .any, .any, .any, .any, .any, .any, .any, .any, .any, .any, .any, .any, .any, .any, .any, .any, .any, .any, .any, .any, .any, .any, .any, .any, .any, .any, .any, .any, .any, .any, .any, .any, .any, .any, .any, .any, .any, .any, .any, .any, .any, .any, .any, .any, .any, .any, .any, .any, .any, .any, .any, .any, .any, .any, .any, .any, .any, .any, .any, .any, .any, .any, .any, .any, .any, .any, .any, .any, .any, .any, .any, .any, .any, .any, .any, .any, .any, .any, .any, .any, .any, .any, .any, .any, .any, .any, .any, .any, .any, .any, .any, .any, .any, .any, .any, .any, .any, .any, .any, .any, .any, .any, .any, .any, .any, .any, .any, .any, .any, .any, .any, .any, .any, .any, .any, .any, .any, .any, .any, .any, .any, .any, .any, .any, .any, .any, .any, .any, .any, .any, .any, .any, .any, .any, .any, .any, .any, .any, .any, .any, .any, .any, .any, .any, .any, .any, .any, .any, .any, .any, .any, .any, .any, .any, .any], [.ex false [.c (.os 1 0 0 1 t26.1 none)] 58, .ex false [.row t26.2.1 (.int .i64) t219.1] 3, .ex false [.c (.sc (.int .i64 t219.2.1)), .c (.fs (.int .i64) (z2 t219) false)] 40], 0⟩) (fun t219 => (.adj [.drop 0] .nil)))))))))))))))))))))))))))))))))))))))))))))))))))))))))))))) (to_goal (q := (∃ t1 : Int × (Option Int), (Fun cfg 6 [.one (.sc (.pointer none))] [] (frames_Frames_Alloc.R t1) (frames_Frames_Alloc.B t1) ∧ True) ∧ (∃ t2 : Bool × (Option Int), (Fun cfg 7 [.one (.sc (.pointer none)), .one (.sc (.int .i64 (0 : Int)))] [] (frames_Frames_Unref.R t2) (frames_Frames_Unref.B (0 : Int) t2) ∧ True) ∧ (∃ t3 : Int, (Fun cfg 8 [.one (.err t1.2)] [] (num.R t3) [] ∧ True) ∧ (True) ∧ (((t3 != (22 : Int)) = false → ((t3 != (22 : Int)) = false ∧ (∃ t5 : Int, (Fun cfg 8 [.one (.err t2.2)] [] (num.R t5) [] ∧ True) ∧ ((t3 != (22 : Int)) = false ∧ (True) ∧ ((t3 != (22 : Int)) = false ∧ (((t5 != (22 : Int)) = false → ((t5 != (22 : Int)) = false ∧ (∃ t7 : (Option Int), (Fun cfg 9 [.one (.sc (.pointer none)), .one (.sc (.int .i64 (0 : Int)))] [] (frames_Frames_Ref.R t7) (frames_Frames_Ref.B (0 : Int) t7) ∧ True) ∧ ((t5 != (22 : Int)) = false ∧ (∃ t8 : Int, (Fun cfg 8 [.one (.err t7)] [] (num.R t8) [] ∧ True) ∧ ((t5 != (22 : Int)) = false ∧ (True) ∧ ((t5 != (22 : Int)) = false ∧ (((t8 != (22 : Int)) = false → ((t8 != (22 : Int)) = false ∧ (∃ t10 : Int, (Fun cfg 10 [.one (.sc (.pointer none)), .one (.sc (.int .i64 (0 : Int)))] [] (frames_Frames_Refs.R t10) (frames_Frames_Refs.B (0 : Int) t10) ∧ True) ∧ ((t8 != (22 : Int)) = false ∧ (True) ∧ ((t8 != (22 : Int)) = false ∧ (((t10 != (0 : Int)) = false → ((t10 != (0 : Int)) = false ∧ (∃ t12 : Int, (Fun cfg 11 [.one (.sc (.pointer none))] [] (frames_Frames_Free.R t12) (frames_Frames_Free.B t12) ∧ True) ∧ ((t10 != (0 : Int)) = false ∧ (True) ∧ ((t10 != (0 : Int)) = false ∧ (((t12 != (0 : Int)) = false → ((t12 != (0 : Int)) = false ∧ (∃ t14 : (List Int), (Fun cfg 12 [.one (.sc (.pointer none))] [] (frames_Frames_Taken.R t14) (frames_Frames_Taken.B t14) ∧ True) ∧ ((t12 != (0 : Int)) = false ∧ (True) ∧ ((t12 != (0 : Int)) = false ∧ (True) ∧ ((t12 != (0 : Int)) = false ∧ ((((((List.length t14) : Nat) : Int) != (0 : Int)) = true → (True ∧ (True ∧ ((True) ∧ (True) ∧ (.v (.one (.sc (.bool false))) : Tm) = halterlaw04_FramesRun.R r ∧ ([] : List Box) = [])))) ∧ (((((List.length t14) : Nat) : Int) != (0 : Int)) = false → ((∃ t17 : Int, (Fun cfg 13 [.one (.sc (.int .i64 a0))] [] (frames_New.R (.inl t17)) (frames_New.B a0 (.inl t17)) ∧ True) ∧ (True) ∧ (((decide (a0 < (1 : Int))) = false → ((decide (a0 < (1 : Int))) = false ∧ (True) ∧ ((decide (a0 < (1 : Int))) = false ∧ (((decide (a0 > (1024 : Int))) = true → (∃ t23 : Int, (Fun cfg 8 [.one (.err (some t17))] [] (num.R t23) [] ∧ True) ∧ (True) ∧ (((t23 == (22 : Int)) = true → ((t23 == (22 : Int)) = true ∧ (True) ∧ ((t23 == (22 : Int)) = true ∧ (true = true ∧ (∃ t25 : Bool, (Fun cfg 14 [] [] (halterlaw04_sure.R t25) [] ∧ True) ∧ (true = true ∧ (True ∧ ((True) ∧ (True) ∧ (.v (.one (.sc (.bool t25))) : Tm) = halterlaw04_FramesRun.R r ∧ ([] : List Box) = [])))))))) ∧ ((t23 == (22 : Int)) = false → ((t23 == (22 : Int)) = false ∧ ((t23 == (22 : Int)) = false ∧ (false = false ∧ (false = false ∧ (True ∧ ((True) ∧ (True) ∧ (.v (.one (.sc (.bool false))) : Tm) = halterlaw04_FramesRun.R r ∧ ([] : List Box) = [])))))))))) ∧ ((decide (a0 > (1024 : Int))) = false → (True) ∧ (true = true ∧ (true = true ∧ (true = true ∧ (true = true ∧ (True ∧ (True ∧ ((True) ∧ (True) ∧ (.v (.one (.sc (.bool false))) : Tm) = halterlaw04_FramesRun.R r ∧ ([] : List Box) = [])))))))))))) ∧ ((decide (a0 < (1 : Int))) = true → ((decide (a0 < (1 : Int))) = true ∧ ((decide (a0 < (1 : Int))) = true ∧ (true = true ∧ (∃ t19 : Int, (Fun cfg 8 [.one (.err (some t17))] [] (num.R t19) [] ∧ True) ∧ (True) ∧ (((t19 == (22 : Int)) = true → ((t19 == (22 : Int)) = true ∧ (True) ∧ ((t19 == (22 : Int)) = true ∧ (true = true ∧ (∃ t21 : Bool, (Fun cfg 14 [] [] (halterlaw04_sure.R t21) [] ∧ True) ∧ (true = true ∧ (True ∧ ((True) ∧ (True) ∧ (.v (.one (.sc (.bool t21))) : Tm) = halterlaw04_FramesRun.R r ∧ ([] : List Box) = [])))))))) ∧ ((t19 == (22 : Int)) = false → ((t19 == (22 : Int)) = false ∧ ((t19 == (22 : Int)) = false ∧ (false = false ∧ (false = false ∧ (True ∧ ((True) ∧ (True) ∧ (.v (.one (.sc (.bool false))) : Tm) = halterlaw04_FramesRun.R r ∧ ([] : List Box) = []))))))))))))))) ∨ (∃ t26 : Nat × Nat × (List Int), (Fun cfg 13 [.one (.sc (.int .i64 a0))] [] (frames_New.R (.inr t26)) (frames_New.B a0 (.inr t26)) ∧ True) ∧ (True) ∧ (((decide (a0 < (1 : Int))) = false → ((decide (a0 < (1 : Int))) = false ∧ (True) ∧ ((decide (a0 < (1 : Int))) = false ∧ (((decide (a0 > (1024 : Int))) = true → (∃ t31 : Int, (Fun cfg 8 [.one (.err none)] [] (num.R t31) [] ∧ True) ∧ (True) ∧ (((t31 == (22 : Int)) = true → ((t31 == (22 : Int)) = true ∧ (True) ∧ ((t31 == (22 : Int)) = true ∧ (false = false ∧ (false = false ∧ (True ∧ ((True) ∧ ((True) ∧ True) ∧ (.v (.one (.sc (.bool false))) : Tm) = halterlaw04_FramesRun.R r ∧ ([] : List Box) = []))))))) ∧ ((t31 == (22 : Int)) = false → ((t31 == (22 : Int)) = false ∧ ((t31 == (22 : Int)) = false ∧ (false = false ∧ (false = false ∧ (True ∧ ((True) ∧ ((True) ∧ True) ∧ (.v (.one (.sc (.bool false))) : Tm) = halterlaw04_FramesRun.R r ∧ ([] : List Box) = [])))))))))) ∧ ((decide (a0 > (1024 : Int))) = false → (True) ∧ (false = false ∧ (false = false ∧ (True) ∧ (false = false ∧ (false = false ∧ (True ∧ (True ∧ (True) ∧ (True ∧ (True ∧ (((True) ∧ (True) ∧ True) ∧ ((∃ t208 : (List Int) × Int × (List Int), Trip cfg (.loop (cpath (Tryd.f3.body.getD .skip) [1, 1, 1, 1, 1, 1, 1, 1, 1, 0, 1, 0, 0])) ⟨[.v (.one (.sc (.int .i64 a0))), .v (.one (.fs (.pair (.int .i64) (.int .i64)) a1 false)), .any, .any, .any, .any, .any, .any, .any, .any, .v (.one (.ptr 0 ⟨0, 0, 0, 0⟩)), .any, .v (.one (.ptr 2 ⟨0, 0, 0, 0⟩)), .v (.one (.sc (.int .i64 (0 : Int)))), .any, .any, .any, .any, .any, .any, .any, .any, .any, .any, .any, .any, .any, .any, .any, .any, .any, .any, .any, .any, .any, .any, .any, .any, .any, .any, .any, .any, .any, .any, .any, .any, .any, .any, .any, .any, .any, .any, .any, .any, .any, .any, .any, .any, .any, .any, .any, .any, .any, .any, .any, .any, .any, .any, .any, .any, .any, .any, .any, .any, .any, .any, .any, .any, .any, .any, .any, .any, .any, .any, .any, .any, .any, .any, .any, .any, .any, .any, .any, .any, .any, .any, .any, .any, .any, .any, .any, .any, .any, .any, .any, .any, .any, .any, .any, .any, .any, .any, .any, .any, .any, .any, .any, .any, .any, .any, .any, .any, .any, .any, .any, .any, .any, .any, .any, .any, .any, .any, .any, .any, .any, .any, .any, .any, .any, .any, .any, .any, .any, .any, .any, .any, .any, .any, .any, .any, .any, .any, .any, .any, .any, .any, .any, .any, .any, .any, .any, .any, .any, .any, .any, .any, .any, .any, .any, .any, .any, .any, .any, .any, .any, .any, .any, .any, .any, .any, .any, .any, .any, .any, .any, .any, .any, .any, .any, .any, .any, .any, .any, .any, .any, .any, .any, .any, .any, .any, .any, .any, .any, .any, .any, .any, .any, .any, .any], [.ex false [.c (.os 1 0 0 1 t26.1 none)] 58, .ex false [.row t26.2.1 (.int .i64) (z2 t26)] 3, .ex false [.c (.sc (.int .i64 a0)), .c (.fs (.int .i64) ([] : List Int) false)] 40], 0⟩ (fun e s => e = (.exit 0) ∧ s = ⟨[.v (.one (.sc (.int .i64 a0))), .any, .any, .any, .any, .any, .any, .any, .any, .any, .v (.one (.ptr 0 ⟨0, 0, 0, 0⟩)), .any, .v (.one (.ptr 2 ⟨0, 0, 0, 0⟩)), .any, .any, .any, .any, .any, .any, .any, .any, .any, .any, .any, .any, .any, .any, .any, .any, .any, .any, .any, .any, .any, .any, .any, .any, .any, .any, .any, .any, .any, .any, .any, .any, .any, .any, .any, .any, .any, .any, .any, .any, .any, .any, .any, .any, .any, .any, .any, .any, .any, .any, .any, .any, .any, .any, .any, .any, .any, .any, .any, .any, .any, .any, .any, .any, .any, .any, .any, .any, .any, .any, .any, .any, .any, .any, .any, .any, .any, .any, .any, .any, .any, .any, .any, .any, .any, .any, .any, .any, .any, .any, .any, .any, .any, .any, .any, .any, .any, .any, .any, .any, .any, .any, .any, .any, .any, .any, .any, .any, .any, .any, .any, .any, .any, .any, .any, .any, .any, .any, .any, .any, .any, .any, .any, .any, .any, .any, .any, .any, .any, .any, .any, .any, .any, .any, .any, .any, .any, .any, .any, .any, .any, .any, .any, .any, .any, .any, .any, .any, .any, .any, .any, .any, .any, .any, .any, .any, .any, .any, .any, .any, .any, .any, .any, .any, .any, .any, .any, .any, .any, .any, .any, .any, .any, .any, .any, .any, .any, .any, .any, .any, .any, .any, .any, .any, .any, .any, .any, .any, .any, .any, .any, .any, .any, .any, .any, .any], [.ex false [.c (.os 1 0 0 1 t26.1 none)] 58, .ex false [.row t26.2.1 (.int .i64) t208.1] 3, .ex false [.c (.sc (.int .i64 t208.2.1)), .c (.fs (.int .i64) (z2 t208) false)] 40], 0⟩) ∧ (True) ∧ (∃ t212 : (List Int), (Fun cfg 19 [.agg [.c (.sc (.int .i64 t208.2.1)), .c (.fs (.int .i64) (z2 t208) false)]] [] (halterref04_Taken.R t212) [] ∧ True) ∧ (∃ t213 : (List Int), (Fun cfg 12 [.one (.ptr 0 ⟨0, 0, 0, 0⟩)] [.ex false [.c (.os 1 0 0 1 t26.1 none)] 58, .ex false [.row t26.2.1 (.int .i64) t208.1] 3] (frames_Frames_Taken_v1.R t213) (frames_Frames_Taken_v1.B t26.1 t26.2.1 t208.1 t213) ∧ True) ∧ (∃ t214 : Bool, (Fun cfg 20 [.one (.fs (.int .i64) t213 false), .one (.fs (.int .i64) t212 false)] [] (halterlaw04_ints.R t214) [] ∧ True) ∧ ((t214 = true → (t214 = true ∧ (∃ t216 : Int, (Fun cfg 11 [.one (.ptr 0 ⟨0, 0, 0, 0⟩)] [.ex false [.c (.os 1 0 0 1 t26.1 none)] 58, .ex false [.row t26.2.1 (.int .i64) t208.1] 3] (frames_Frames_Free_v1.R t216) (frames_Frames_Free_v1.B t26.1 t26.2.1 t208.1 t216) ∧ True) ∧ (t214 = true ∧ (t214 = true ∧ (t214 = true ∧ (True) ∧ (t214 = true ∧ (True) ∧ (t214 = true ∧ (True) ∧ (t214 = true ∧ (((t216 == (IntKind.wrap .i64 (a0 - (((List.length t212) : Nat) : Int)))) = true → (∃ t218 : Bool, (Fun cfg 14 [] [] (halterlaw04_sure.R t218) [] ∧ True) ∧ ((t216 == (IntKind.wrap .i64 (a0 - (((List.length t212) : Nat) : Int)))) = true ∧ (True ∧ ((True) ∧ ((True) ∧ True) ∧ (.v (.one (.sc (.bool t218))) : Tm) = halterlaw04_FramesRun.R r ∧ ([] : List Box) = []))))) ∧ ((t216 == (IntKind.wrap .i64 (a0 - (((List.length t212) : Nat) : Int)))) = false → ((t216 == (IntKind.wrap .i64 (a0 - (((List.length t212) : Nat) : Int)))) = false ∧ (True ∧ ((True) ∧ ((True) ∧ True) ∧ (.v (.one (.sc (.bool false))) : Tm) = halterlaw04_FramesRun.R r ∧ ([] : List Box) = [])))))))))))))) ∧ (t214 = false → (t214 = false ∧ (t214 = false ∧ (t214 = false ∧ (t214 = false ∧ (t214 = false ∧ (t214 = false ∧ (t214 = false ∧ (false = false ∧ (false = false ∧ (True ∧ ((True) ∧ ((True) ∧ True) ∧ (.v (.one (.sc (.bool false))) : Tm) = halterlaw04_FramesRun.R r ∧ ([] : List Box) = []))))))))))))))))) ∨ (∃ t219 : (List Int) × Int × (List Int), Trip cfg (.loop (cpath (Tryd.f3.body.getD .skip) [1, 1, 1, 1, 1, 1, 1, 1, 1, 0, 1, 0, 0])) ⟨[.v (.one (.sc (.int .i64 a0))), .v (.one (.fs (.pair (.int .i64) (.int .i64)) a1 false)), .any, .any, .any, .any, .any, .any, .any, .any, .v (.one (.ptr 0 ⟨0, 0, 0, 0⟩)), .any, .v (.one (.ptr 2 ⟨0, 0, 0, 0⟩)), .v (.one (.sc (.int .i64 (0 : Int)))), .any, .any, .any, .any, .any, .any, .any, .any, .any, .any, .any, .any, .any, .any, .any, .any, .any, .any, .any, .any, .any, .any, .any, .any, .any, .any, .any, .any, .any, .any, .any, .any, .any, .any, .any, .any, .any, .any, .any, .any, .any, .any, .any, .any, .any, .any, .any, .any, .any, .any, .any, .any, .any, .any, .any, .any, .any, .any, .any, .any, .any, .any, .any, .any, .any, .any, .any, .any, .any, .any, .any, .any, .any, .any, .any, .any, .any, .any, .any, .any, .any, .any, .any, .any, .any, .any, .any, .any, .any, .any, .any, .any, .any, .any, .any, .any, .any, .any, .any, .any, .any, .any, .any, .any, .any, .any, .any, .any, .any, .any, .any, .any, .any, .any, .any, .any, .any, .any, .any, .any, .any, .any, .any, .any, .any, .any, .any, .any, .any, .any, .any, .any, .any, .any, .any, .any, .any, .any, .any, .any, .any, .any, .any, .any, .any, .any, .any, .any, .any, .any, .any, .any, .any, .any, .any, .any, .any, .any, .any, .any, .any, .any, .any, .any, .any, .any, .any, .any, .any, .any, .any, .any, .any, .any, .any, .any, .any, .any, .any, .any, .any, .any, .any, .any, .any, .any, .any, .any, .any, .any, .any, .any, .any, .any, .any], [.ex false [.c (.os 1 0 0 1 t26.1 none)] 58, .ex false [.row t26.2.1 (.int .i64) (z2 t26)] 3, .ex false [.c (.sc (.int .i64 a0)), .c (.fs (.int .i64) ([] : List Int) false)] 40], 0⟩ (fun e s => e = .ret ∧ s = ⟨[.any, .any, .any, .any, .v (.one (.sc (.bool false))), .any, .any, .any, .any, .any, .any, .any, .any, .any, .any, .any, .any, .any, .any, .any, .any, .any, .any, .any, .any, .any, .any, .any, .any, .any, .any, .any, .any, .any, .any, .any, .any, .any, .any, .any, .any, .any, .any, .any, .any, .any, .any, .any, .any, .any, .any, .any, .any, .any, .any, .any, .any, .any, .any, .any, .any, .any, .any, .any, .any, .any, .any, .any, .any, .any, .any, .any, .any, .any, .any, .any, .any, .any, .any, .any, .any, .any, .any, .any, .any, .any, .any, .any, .any, .any, .any, .any, .any, .any, .any, .any, .any, .any, .any, .any, .any, .any, .any, .any, .any, .any, .any, .any, .any, .any, .any, .any, .any, .any, .any, .any, .any, .any, .any, .any, .any, .any, .any, .any, .any, .any, .any, .any, .any, .any, .any, .any, .any, .any, .any, .any, .any, .any, .any, .any, .any, .any, .any, .any, .any, .any, .any, .any, .any, .any, .any, .any, .any, .any, .any, .any, .any, .any, .any, .any, .any, .any, .any, .any, .any, .any, .any, .any, .any, .any, .any, .any, .any, .any, .any, .any, .any, .any, .any, .any, .any, .any, .any, .any, .any, .any, .any, .any, .any, .any, .any, .any, .any, .any, .any, .any, .any, .any, .any, .any, .any, .any, .any, .any, .any, .any, .any, .any, .any], [.ex false [.c (.os 1 0 0 1 t26.1 none)] 58, .ex false [.row t26.2.1 (.int .i64) t219.1] 3, .ex false [.c (.sc (.int .i64 t219.2.1)), .c (.fs (.int .i64) (z2 t219) false)] 40], 0⟩) ∧ ((True) ∧ ((True) ∧ True) ∧ (.v (.one (.sc (.bool false))) : Tm) = halterlaw04_FramesRun.R r ∧ ([] : List Box) = []))))))))))))))))) ∧ ((decide (a0 < (1 : Int))) = true → ((decide (a0 < (1 : Int))) = true ∧ ((decide (a0 < (1 : Int))) = true ∧ (true = true ∧ (∃ t28 : Int, (Fun cfg 8 [.one (.err none)] [] (num.R t28) [] ∧ True) ∧ (True) ∧ (((t28 == (22 : Int)) = true → ((t28 == (22 : Int)) = true ∧ (True) ∧ ((t28 == (22 : Int)) = true ∧ (false = false ∧ (false = false ∧ (True ∧ ((True) ∧ ((True) ∧ True) ∧ (.v (.one (.sc (.bool false))) : Tm) = halterlaw04_FramesRun.R r ∧ ([] : List Box) = []))))))) ∧ ((t28 == (22 : Int)) = false → ((t28 == (22 : Int)) = false ∧ ((t28 == (22 : Int)) = false ∧ (false = false ∧ (false = false ∧ (True ∧ ((True) ∧ ((True) ∧ True) ∧ (.v (.one (.sc (.bool false))) : Tm) = halterlaw04_FramesRun.R r ∧ ([] : List Box) = [])))))))))))))))))))))))) ∧ ((t12 != (0 : Int)) = true → ((t12 != (0 : Int)) = true ∧ ((t12 != (0 : Int)) = true ∧ ((t12 != (0 : Int)) = true ∧ ((t12 != (0 : Int)) = true ∧ (true = true ∧ (True ∧ (True ∧ ((True) ∧ (True) ∧ (.v (.one (.sc (.bool false))) : Tm) = halterlaw04_FramesRun.R r ∧ ([] : List Box) = []))))))))))))))) ∧ ((t10 != (0 : Int)) = true → ((t10 != (0 : Int)) = true ∧ ((t10 != (0 : Int)) = true ∧ ((t10 != (0 : Int)) = true ∧ (true = true ∧ (true = true ∧ (true = true ∧ (true = true ∧ (true = true ∧ (true = true ∧ (True ∧ (True ∧ ((True) ∧ (True) ∧ (.v (.one (.sc (.bool false))) : Tm) = halterlaw04_FramesRun.R r ∧ ([] : List Box) = []))))))))))))))))))) ∧ ((t8 != (22 : Int)) = true → ((t8 != (22 : Int)) = true ∧ ((t8 != (22 : Int)) = true ∧ ((t8 != (22 : Int)) = true ∧ (true = true ∧ (true = true ∧ (true = true ∧ (true = true ∧ (true = true ∧ (true = true ∧ (true = true ∧ (true = true ∧ (true = true ∧ (true = true ∧ (True ∧ (True ∧ ((True) ∧ (True) ∧ (.v (.one (.sc (.bool false))) : Tm) = halterlaw04_FramesRun.R r ∧ ([] : List Box) = []))))))))))))))))))))))))) ∧ ((t5 != (22 : Int)) = true → ((t5 != (22 : Int)) = true ∧ ((t5 != (22 : Int)) = true ∧ ((t5 != (22 : Int)) = true ∧ ((t5 != (22 : Int)) = true ∧ (true = true ∧ (true = true ∧ (true = true ∧ (true = true ∧ (true = true ∧ (true = true ∧ (true = true ∧ (true = true ∧ (true = true ∧ (true = true ∧ (true = true ∧ (true = true ∧ (true = true ∧ (true = true ∧ (True ∧ (True ∧ ((True) ∧ (True) ∧ (.v (.one (.sc (.bool false))) : Tm) = halterlaw04_FramesRun.R r ∧ ([] : List Box) = [])))))))))))))))))))))))))))) ∧ ((t3 != (22 : Int)) = true → ((t3 != (22 : Int)) = true ∧ ((t3 != (22 : Int)) = true ∧ ((t3 != (22 : Int)) = true ∧ (true = true ∧ (true = true ∧ (true = true ∧ (true = true ∧ (true = true ∧ (true = true ∧ (true = true ∧ (true = true ∧ (true = true ∧ (true = true ∧ (true = true ∧ (true = true ∧ (true = true ∧ (true = true ∧ (true = true ∧ (true = true ∧ (true = true ∧ (true = true ∧ (true = true ∧ (True ∧ (True ∧ ((True) ∧ (True) ∧ (.v (.one (.sc (.bool false))) : Tm) = halterlaw04_FramesRun.R r ∧ ([] : List Box) = []))))))))))))))))))))))))))))))) (by kernel_rfl) ?_)
  obtain ⟨t1, ht1, h⟩ := of_bind h
  refine ⟨t1, ⟨frames_Frames_Alloc.fun_ ht1, trivial⟩, ?_⟩
  obtain ⟨t2, ht2, h⟩ := of_bind h
  refine ⟨t2, ⟨frames_Frames_Unref.fun_ ht2, trivial⟩, ?_⟩
  obtain ⟨t3, ht3, h⟩ := of_bind h
  refine ⟨t3, ⟨num.fun_ ht3, trivial⟩, ?_⟩
  refine ⟨trivial, ?_⟩
  refine ⟨fun b4 => ?_, fun b4 => ?_⟩
  · rw [if_neg (not_not_intro (bne_f b4))] at h
    refine ⟨b4, ?_⟩
    obtain ⟨t5, ht5, h⟩ := of_bind h
    refine ⟨t5, ⟨num.fun_ ht5, trivial⟩, ?_⟩
    refine ⟨b4, ?_⟩
    refine ⟨trivial, ?_⟩
    refine ⟨b4, ?_⟩
    refine ⟨fun b6 => ?_, fun b6 => ?_⟩
    · rw [if_neg (not_not_intro (bne_f b6))] at h
      refine ⟨b6, ?_⟩
      obtain ⟨t7, ht7, h⟩ := of_bind h
      refine ⟨t7, ⟨frames_Frames_Ref.fun_ ht7, trivial⟩, ?_⟩
      refine ⟨b6, ?_⟩
      obtain ⟨t8, ht8, h⟩ := of_bind h
      refine ⟨t8, ⟨num.fun_ ht8, trivial⟩, ?_⟩
      refine ⟨b6, ?_⟩
      refine ⟨trivial, ?_⟩
      refine ⟨b6, ?_⟩
      refine ⟨fun b9 => ?_, fun b9 => ?_⟩
      · rw [if_neg (not_not_intro (bne_f b9))] at h
        refine ⟨b9, ?_⟩
        obtain ⟨t10, ht10, h⟩ := of_bind h
        refine ⟨t10, ⟨frames_Frames_Refs.fun_ ht10, trivial⟩, ?_⟩
        refine ⟨b9, ?_⟩
        refine ⟨trivial, ?_⟩
        refine ⟨b9, ?_⟩
        refine ⟨fun b11 => ?_, fun b11 => ?_⟩
        · rw [if_neg (not_not_intro (bne_f b11))] at h
          refine ⟨b11, ?_⟩
          obtain ⟨t12, ht12, h⟩ := of_bind h
          refine ⟨t12, ⟨frames_Frames_Free.fun_ ht12, trivial⟩, ?_⟩
          refine ⟨b11, ?_⟩
          refine ⟨trivial, ?_⟩
          refine ⟨b11, ?_⟩
          refine ⟨fun b13 => ?_, fun b13 => ?_⟩
          · rw [if_neg (not_not_intro (bne_f b13))] at h
            refine ⟨b13, ?_⟩
            obtain ⟨t14, ht14, h⟩ := of_bind h
            refine ⟨t14, ⟨frames_Frames_Taken.fun_ ht14, trivial⟩, ?_⟩
            refine ⟨b13, ?_⟩
            refine ⟨trivial, ?_⟩
            refine ⟨b13, ?_⟩
            refine ⟨trivial, ?_⟩
            refine ⟨b13, ?_⟩
            refine ⟨fun b15 => ?_, fun b15 => ?_⟩
            · rw [if_pos (bne_t b15)] at h
              refine ⟨trivial, ?_⟩
              refine ⟨trivial, ?_⟩
              obtain rfl := Option.some.inj h
              exact ⟨trivial, trivial, rfl, rfl⟩
            · rw [if_neg (not_not_intro (bne_f b15))] at h
              obtain ⟨t16, ht16, h⟩ := of_bind h
              rcases t16 with t17 | t26
              · dsimp only at h
                left
                refine ⟨t17, ⟨frames_New.fun_ ht16, trivial⟩, ?_⟩
                refine ⟨trivial, ?_⟩
                refine ⟨fun b18 => ?_, fun b18 => ?_⟩
                · rw [if_neg (of_decide_eq_false b18)] at h
                  refine ⟨b18, ?_⟩
                  refine ⟨trivial, ?_⟩
                  refine ⟨b18, ?_⟩
                  refine ⟨fun b22 => ?_, fun b22 => ?_⟩
                  · rw [if_pos (of_decide_eq_true b22)] at h
                    obtain ⟨t23, ht23, h⟩ := of_bind h
                    refine ⟨t23, ⟨num.fun_ ht23, trivial⟩, ?_⟩
                    refine ⟨trivial, ?_⟩
                    refine ⟨fun b24 => ?_, fun b24 => ?_⟩
                    · rw [if_pos (beq_t b24)] at h
                      refine ⟨b24, ?_⟩
                      refine ⟨trivial, ?_⟩
                      refine ⟨b24, ?_⟩
                      refine ⟨rfl, ?_⟩
                      obtain ⟨t25, ht25, h⟩ := of_bind h
                      refine ⟨t25, ⟨halterlaw04_sure.fun_ ht25, trivial⟩, ?_⟩
                      refine ⟨rfl, ?_⟩
                      refine ⟨trivial, ?_⟩
                      obtain rfl := Option.some.inj h
                      exact ⟨trivial, trivial, rfl, rfl⟩
                    · rw [if_neg (beq_f b24)] at h
                      refine ⟨b24, ?_⟩
                      refine ⟨b24, ?_⟩
                      refine ⟨rfl, ?_⟩
                      refine ⟨rfl, ?_⟩
                      refine ⟨trivial, ?_⟩
                      obtain rfl := Option.some.inj h
                      exact ⟨trivial, trivial, rfl, rfl⟩
                  · rw [if_neg (of_decide_eq_false b22)] at h
                    refine ⟨trivial, ?_⟩
                    refine ⟨rfl, ?_⟩
                    refine ⟨rfl, ?_⟩
                    refine ⟨rfl, ?_⟩
                    refine ⟨rfl, ?_⟩
                    refine ⟨trivial, ?_⟩
                    refine ⟨trivial, ?_⟩
                    obtain rfl := Option.some.inj h
                    exact ⟨trivial, trivial, rfl, rfl⟩
                · rw [if_pos (of_decide_eq_true b18)] at h
                  refine ⟨b18, ?_⟩
                  refine ⟨b18, ?_⟩
                  refine ⟨rfl, ?_⟩
                  obtain ⟨t19, ht19, h⟩ := of_bind h
                  refine ⟨t19, ⟨num.fun_ ht19, trivial⟩, ?_⟩
                  refine ⟨trivial, ?_⟩
                  refine ⟨fun b20 => ?_, fun b20 => ?_⟩
                  · rw [if_pos (beq_t b20)] at h
                    refine ⟨b20, ?_⟩
                    refine ⟨trivial, ?_⟩
                    refine ⟨b20, ?_⟩
                    refine ⟨rfl, ?_⟩
                    obtain ⟨t21, ht21, h⟩ := of_bind h
                    refine ⟨t21, ⟨halterlaw04_sure.fun_ ht21, trivial⟩, ?_⟩
                    refine ⟨rfl, ?_⟩
                    refine ⟨trivial, ?_⟩
                    obtain rfl := Option.some.inj h
                    exact ⟨trivial, trivial, rfl, rfl⟩
                  · rw [if_neg (beq_f b20)] at h
                    refine ⟨b20, ?_⟩
                    refine ⟨b20, ?_⟩
                    refine ⟨rfl, ?_⟩
                    refine ⟨rfl, ?_⟩
                    refine ⟨trivial, ?_⟩
                    obtain rfl := Option.some.inj h
                    exact ⟨trivial, trivial, rfl, rfl⟩
              · dsimp only at h
                right
                refine ⟨t26, ⟨frames_New.fun_ ht16, trivial⟩, ?_⟩
                refine ⟨trivial, ?_⟩
                refine ⟨fun b27 => ?_, fun b27 => ?_⟩
                · rw [if_neg (of_decide_eq_false b27)] at h
                  refine ⟨b27, ?_⟩
                  refine ⟨trivial, ?_⟩
                  refine ⟨b27, ?_⟩
                  refine ⟨fun b30 => ?_, fun b30 => ?_⟩
                  · rw [if_pos (of_decide_eq_true b30)] at h
                    obtain ⟨t31, ht31, h⟩ := of_bind h
                    refine ⟨t31, ⟨num.fun_ ht31, trivial⟩, ?_⟩
                    refine ⟨trivial, ?_⟩
                    refine ⟨fun b32 => ?_, fun b32 => ?_⟩
                    · rw [if_pos (beq_t b32)] at h
                      refine ⟨b32, ?_⟩
                      refine ⟨trivial, ?_⟩
                      refine ⟨b32, ?_⟩
                      refine ⟨rfl, ?_⟩
                      refine ⟨rfl, ?_⟩
                      refine ⟨trivial, ?_⟩
                      obtain rfl := Option.some.inj h
                      exact ⟨trivial, ⟨trivial, trivial⟩, rfl, rfl⟩
                    · rw [if_neg (beq_f b32)] at h
                      refine ⟨b32, ?_⟩
                      refine ⟨b32, ?_⟩
                      refine ⟨rfl, ?_⟩
                      refine ⟨rfl, ?_⟩
                      refine ⟨trivial, ?_⟩
                      obtain rfl := Option.some.inj h
                      exact ⟨trivial, ⟨trivial, trivial⟩, rfl, rfl⟩
                  · rw [if_neg (of_decide_eq_false b30)] at h
                    refine ⟨trivial, ?_⟩
                    refine ⟨rfl, ?_⟩
                    refine ⟨rfl, ?_⟩
                    refine ⟨trivial, ?_⟩
                    refine ⟨rfl, ?_⟩
                    refine ⟨rfl, ?_⟩
                    refine ⟨trivial, ?_⟩
                    refine ⟨trivial, ?_⟩
                    refine ⟨trivial, ?_⟩
                    refine ⟨trivial, ?_⟩
                    refine ⟨trivial, ?_⟩
                    obtain ⟨t147, ht147, h⟩ := of_bind h
                    refine ⟨⟨trivial, trivial, trivial⟩, ?_⟩
                    rcases t147 with t208 | t219
                    · dsimp only at h
                      left
                      refine ⟨t208, Trip.loop FUEL (halterlaw04_FramesRun.l0_ok t26 a0 a1 FUEL t26.2.2 a0 ([] : List Int) (0 : Int) (.inl t208) ht147), ?_⟩
                      refine ⟨trivial, ?_⟩
                      obtain ⟨t212, ht212, h⟩ := of_bind h
                      refine ⟨t212, ⟨halterref04_Taken.fun_ ht212, trivial⟩, ?_⟩
                      obtain ⟨t213, ht213, h⟩ := of_bind h
                      refine ⟨t213, ⟨frames_Frames_Taken_v1.fun_ ht213, trivial⟩, ?_⟩
                      obtain ⟨t214, ht214, h⟩ := of_bind h
                      refine ⟨t214, ⟨halterlaw04_ints.fun_ ht214, trivial⟩, ?_⟩
                      refine ⟨fun b215 => ?_, fun b215 => ?_⟩
                      · rw [if_pos b215] at h
                        refine ⟨b215, ?_⟩
                        obtain ⟨t216, ht216, h⟩ := of_bind h
                        refine ⟨t216, ⟨frames_Frames_Free_v1.fun_ ht216, trivial⟩, ?_⟩
                        refine ⟨b215, ?_⟩
                        refine ⟨b215, ?_⟩
                        refine ⟨b215, ?_⟩
                        refine ⟨trivial, ?_⟩
                        refine ⟨b215, ?_⟩
                        refine ⟨trivial, ?_⟩
                        refine ⟨b215, ?_⟩
                        refine ⟨trivial, ?_⟩
                        refine ⟨b215, ?_⟩
                        refine ⟨fun b217 => ?_, fun b217 => ?_⟩
                        · rw [if_pos (beq_t b217)] at h
                          obtain ⟨t218, ht218, h⟩ := of_bind h
                          refine ⟨t218, ⟨halterlaw04_sure.fun_ ht218, trivial⟩, ?_⟩
                          refine ⟨b217, ?_⟩
                          refine ⟨trivial, ?_⟩
                          obtain rfl := Option.some.inj h
                          exact ⟨trivial, ⟨trivial, trivial⟩, rfl, rfl⟩
                        · rw [if_neg (beq_f b217)] at h
                          refine ⟨b217, ?_⟩
                          refine ⟨trivial, ?_⟩
                          obtain rfl := Option.some.inj h
                          exact ⟨trivial, ⟨trivial, trivial⟩, rfl, rfl⟩
                      · rw [if_neg (ff b215)] at h
                        refine ⟨b215, ?_⟩
                        refine ⟨b215, ?_⟩
                        refine ⟨b215, ?_⟩
                        refine ⟨b215, ?_⟩
                        refine ⟨b215, ?_⟩
                        refine ⟨b215, ?_⟩
                        refine ⟨b215, ?_⟩
                        refine ⟨rfl, ?_⟩
                        refine ⟨rfl, ?_⟩
                        refine ⟨trivial, ?_⟩
                        obtain rfl := Option.some.inj h
                        exact ⟨trivial, ⟨trivial, trivial⟩, rfl, rfl⟩
                    · dsimp only at h
                      right
                      refine ⟨t219, Trip.loop FUEL (halterlaw04_FramesRun.l0_ok t26 a0 a1 FUEL t26.2.2 a0 ([] : List Int) (0 : Int) (.inr t219) ht147), ?_⟩
                      obtain rfl := Option.some.inj h
                      exact ⟨trivial, ⟨trivial, trivial⟩, rfl, rfl⟩
                · rw [if_pos (of_decide_eq_true b27)] at h
                  refine ⟨b27, ?_⟩
                  refine ⟨b27, ?_⟩
                  refine ⟨rfl, ?_⟩
                  obtain ⟨t28, ht28, h⟩ := of_bind h
                  refine ⟨t28, ⟨num.fun_ ht28, trivial⟩, ?_⟩
                  refine ⟨trivial, ?_⟩
                  refine ⟨fun b29 => ?_, fun b29 => ?_⟩
                  · rw [if_pos (beq_t b29)] at h
                    refine ⟨b29, ?_⟩
                    refine ⟨trivial, ?_⟩
                    refine ⟨b29, ?_⟩
                    refine ⟨rfl, ?_⟩
                    refine ⟨rfl, ?_⟩
                    refine ⟨trivial, ?_⟩
                    obtain rfl := Option.some.inj h
                    exact ⟨trivial, ⟨trivial, trivial⟩, rfl, rfl⟩
                  · rw [if_neg (beq_f b29)] at h
                    refine ⟨b29, ?_⟩
                    refine ⟨b29, ?_⟩
                    refine ⟨rfl, ?_⟩
                    refine ⟨rfl, ?_⟩
                    refine ⟨trivial, ?_⟩
                    obtain rfl := Option.some.inj h
                    exact ⟨trivial, ⟨trivial, trivial⟩, rfl, rfl⟩
          · rw [if_pos (bne_t b13)] at h
            refine ⟨b13, ?_⟩
            refine ⟨b13, ?_⟩
            refine ⟨b13, ?_⟩
            refine ⟨b13, ?_⟩
            refine ⟨rfl, ?_⟩
            refine ⟨trivial, ?_⟩
            refine ⟨trivial, ?_⟩
            obtain rfl := Option.some.inj h
            exact ⟨trivial, trivial, rfl, rfl⟩
        · rw [if_pos (bne_t b11)] at h
          refine ⟨b11, ?_⟩
          refine ⟨b11, ?_⟩
          refine ⟨b11, ?_⟩
          refine ⟨rfl, ?_⟩
          refine ⟨rfl, ?_⟩
          refine ⟨rfl, ?_⟩
          refine ⟨rfl, ?_⟩
          refine ⟨rfl, ?_⟩
          refine ⟨rfl, ?_⟩
          refine ⟨trivial, ?_⟩
          refine ⟨trivial, ?_⟩
          obtain rfl := Option.some.inj h
          exact ⟨trivial, trivial, rfl, rfl⟩
      · rw [if_pos (bne_t b9)] at h
        refine ⟨b9, ?_⟩
        refine ⟨b9, ?_⟩
        refine ⟨b9, ?_⟩
        refine ⟨rfl, ?_⟩
        refine ⟨rfl, ?_⟩
        refine ⟨rfl, ?_⟩
        refine ⟨rfl, ?_⟩
        refine ⟨rfl, ?_⟩
        refine ⟨rfl, ?_⟩
        refine ⟨rfl, ?_⟩
        refine ⟨rfl, ?_⟩
        refine ⟨rfl, ?_⟩
        refine ⟨rfl, ?_⟩
        refine ⟨trivial, ?_⟩
        refine ⟨trivial, ?_⟩
        obtain rfl := Option.some.inj h
        exact ⟨trivial, trivial, rfl, rfl⟩
    · rw [if_pos (bne_t b6)] at h
      refine ⟨b6, ?_⟩
      refine ⟨b6, ?_⟩
      refine ⟨b6, ?_⟩
      refine ⟨b6, ?_⟩
      refine ⟨rfl, ?_⟩
      refine ⟨rfl, ?_⟩
      refine ⟨rfl, ?_⟩
      refine ⟨rfl, ?_⟩
      refine ⟨rfl, ?_⟩
      refine ⟨rfl, ?_⟩
      refine ⟨rfl, ?_⟩
      refine ⟨rfl, ?_⟩
      refine ⟨rfl, ?_⟩
      refine ⟨rfl, ?_⟩
      refine ⟨rfl, ?_⟩
      refine ⟨rfl, ?_⟩
      refine ⟨rfl, ?_⟩
      refine ⟨rfl, ?_⟩
      refine ⟨trivial, ?_⟩
      refine ⟨trivial, ?_⟩
      obtain rfl := Option.some.inj h
      exact ⟨trivial, trivial, rfl, rfl⟩
  · rw [if_pos (bne_t b4)] at h
    refine ⟨b4, ?_⟩
    refine ⟨b4, ?_⟩
    refine ⟨b4, ?_⟩
    refine ⟨rfl, ?_⟩
    refine ⟨rfl, ?_⟩
    refine ⟨rfl, ?_⟩
    refine ⟨rfl, ?_⟩
    refine ⟨rfl, ?_⟩
    refine ⟨rfl, ?_⟩
    refine ⟨rfl, ?_⟩
    refine ⟨rfl, ?_⟩
    refine ⟨rfl, ?_⟩
    refine ⟨rfl, ?_⟩
    refine ⟨rfl, ?_⟩
    refine ⟨rfl, ?_⟩
    refine ⟨rfl, ?_⟩
    refine ⟨rfl, ?_⟩
    refine ⟨rfl, ?_⟩
    refine ⟨rfl, ?_⟩
    refine ⟨rfl, ?_⟩
    refine ⟨rfl, ?_⟩
    refine ⟨rfl, ?_⟩
    refine ⟨trivial, ?_⟩
    refine ⟨trivial, ?_⟩
    obtain rfl := Option.some.inj h
    exact ⟨trivial, trivial, rfl, rfl⟩
end Go.Proofs.YthoilcjnnifenaaDoorGFramesRun
