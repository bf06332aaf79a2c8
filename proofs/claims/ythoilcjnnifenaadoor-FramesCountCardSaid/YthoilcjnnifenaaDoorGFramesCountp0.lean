/- Printed by gen.py: what functions of the program compute, in plain Lean, and that they do. -/
import Derived.Test.YthoilcjnnifenaaDoorE15
import Derived.Test.YthoilcjnnifenaaDoorN
set_option linter.unusedVariables false
set_option maxRecDepth 100000
set_option maxHeartbeats 4000000
namespace Go.Proofs.YthoilcjnnifenaaDoorGFramesCount
open Go Go.Proofs.YthoilcjnnifenaaDoorE
def tiL : List (Nat × TI) := [
  (3, ⟨1, 8, false, .int .i64, [.c (.sc (.int .i64 (0 : Int)))], some (.int .i64)⟩),
  (4, ⟨1, 1, false, .bool, [.c (.sc (.bool false))], some .bool⟩),
  (22, ⟨1, 24, false, (.slice 42), [.c (.sc (.slice none 0 0))], some (.sl (.pair (.int .i64) (.int .i64)))⟩),
  (23, ⟨1, 8, false, (.ptr 58), [.c (.sc (.pointer none))], none⟩),
  (25, ⟨1, 16, false, .iface, [.c (.err none)], none⟩),
  (34, ⟨1, 24, false, (.slice 3), [.c (.sc (.slice none 0 0))], some (.sl (.int .i64))⟩),
  (42, ⟨2, 16, true, (.struct [(0, 3), (1, 3)]), [.c (.sc (.int .i64 (0 : Int))), .c (.sc (.int .i64 (0 : Int)))], some (.pair (.int .i64) (.int .i64))⟩),
  (43, ⟨1, 8, false, .int .u64, [.c (.sc (.int .u64 (0 : Int)))], some (.int .u64)⟩),
  (55, ⟨1, 8, false, .int .i64, [.c (.sc (.int .i64 (0 : Int)))], some (.int .i64)⟩),
  (58, ⟨1, 24, true, (.struct [(0, 34)]), [.c (.sc (.slice none 0 0))], some (.sl (.int .i64))⟩)]
def tabs : List (Nat × IntKind × List Int) := []
noncomputable def cfg : Cfg := ⟨Tryd.prog, 55, [(⟨0, 0, none⟩, .iface 75 (.agg #[.pointer (some ⟨1, 25, none⟩)]))] ++ tabs.flatMap tabG, tiL, [], tabs⟩
theorem cfg_ok : COk cfg := by
  refine ⟨fun p hp => ?_, by kernel_rfl, fun p hp => ?_, fun t ht => ?_, fun x hx y hy => List.mem_append_right _ (List.mem_flatMap.2 ⟨x, hx, hy⟩)⟩
  · simp only [cfg, tiL, List.mem_cons, List.not_mem_nil, or_false] at hp
    rcases hp with rfl | rfl | rfl | rfl | rfl | rfl | rfl | rfl | rfl | rfl <;> exact ⟨by kernel_rfl, by kernel_rfl, by kernel_rfl, by kernel_rfl, by kernel_rfl, by kernel_rfl⟩
  · simp only [cfg, tiL, List.mem_cons, List.not_mem_nil, or_false] at hp
    rcases hp with rfl | rfl | rfl | rfl | rfl | rfl | rfl | rfl | rfl | rfl <;> intro fs hfs bl hbl
    · cases hfs
    · cases hfs
    · cases hfs
    · cases hfs
    · cases hfs
    · cases hfs
    · cases hfs
      have e : fieldsZ cfg.L 0 [(0, 3), (1, 3)] = some [[.c (.sc (.int .i64 (0 : Int)))], [.c (.sc (.int .i64 (0 : Int)))]] := by kernel_rfl
      rw [e] at hbl
      cases hbl
      exact (by kernel_rfl : encPs (List.flatten [[.c (.sc (.int .i64 (0 : Int)))], [.c (.sc (.int .i64 (0 : Int)))]]) = encPs [.c (.sc (.int .i64 (0 : Int))), .c (.sc (.int .i64 (0 : Int)))])
    · cases hfs
    · cases hfs
    · cases hfs
      have e : fieldsZ cfg.L 0 [(0, 34)] = some [[.c (.sc (.slice none 0 0))]] := by kernel_rfl
      rw [e] at hbl
      cases hbl
      exact (by kernel_rfl : encPs (List.flatten [[.c (.sc (.slice none 0 0))]]) = encPs [.c (.sc (.slice none 0 0))])
  · cases ht
def fin : Scr → List Adj
  | .adj l _ => l
  | _ => []
/-! the error's number -/
def num.f (a0 : Option Int) : Option Int := some (a0.getD 0)
def num.R (r : Int) : Tm := .v (.one (.sc (.int .i64 r)))
theorem num.fun_ {a0 : Option Int} {r : Int} (h : num.f a0 = some r) : Fun cfg 8 [.one (.err a0)] [] (num.R r) [] := by
  refine Fun.of_below (f := 8) (fn := Tryd.f8) Tryd.func8 rfl (by kernel_rfl) (r := .int .i64 r) (fun X => ⟨⟨rfl, rfl⟩, rfl⟩) fun X vs hE hvs hG => ?_
  obtain ⟨v, us, rfl, hv, rfl⟩ := hvs
  have hv : v = errV X.E a0 := hv.1
  have he : errV cfg.E a0 = YthoilcjnnifenaaDoorN.errW a0 := by cases a0 <;> rfl
  rw [hv, hE, he]
  exact YthoilcjnnifenaaDoorN.num.calls a0 r X.w (hG _ (List.mem_append_left _ (List.mem_cons_self ..))) h
/-! halter/frames.New -/
def frames_New.f (a0 : Int) : Option ((Int) ⊕ (Nat × Nat × (List Int))) :=
  if a0 < (1 : Int) then
    some (.inl (22 : Int))
  else
    if a0 > (1024 : Int) then
      some (.inl (22 : Int))
    else
      if 0 ≤ a0 ∧ a0 = a0 ∧ (8 : Int) * a0 ≤ 281474976710656 ∧ a0 ≤ 9223372036854775807 then
        some (.inr ((Int.toNat a0), (Int.toNat a0), (List.replicate (Int.toNat a0) (0 : Int))))
      else none
def frames_New.R : (Int) ⊕ (Nat × Nat × (List Int)) → Tm
  | .inl r => .tup [.one (.sc (.pointer none)), .one (.err (some r))]
  | .inr r => .tup [.one (.ptr 0 ⟨0, 0, 0, 0⟩), .one (.err none)]
def frames_New.B (a0 : Int) : (Int) ⊕ (Nat × Nat × (List Int)) → List Box
  | .inl r => []
  | .inr r => [.ex false [.c (.os 1 0 0 1 r.1 none)] 58, .ex false [.row r.2.1 (.int .i64) r.2.2] 3]
theorem frames_New.fun_ {a0 : Int} {r : (Int) ⊕ (Nat × Nat × (List Int))} (h : frames_New.f a0 = some r) : Fun cfg 13 [.one (.sc (.int .i64 a0))] [] (frames_New.R r) (frames_New.B a0 r) := by
  unfold frames_New.f at h
  refine fun_of_run cfg_ok (f := 13) (fn := Tryd.f13) Tryd.func13 rfl (by kernel_rfl) (rs := [.tmp 2, .tmp 3]) rfl (nt := 15) rfl (l := fin) (k := (.br (.one true (.one true (.one true (.adj [] (.adj [] (.adj [] .nil)))))) (.one false (.one false (.br (.adj [] (.adj [] (.adj [] .nil))) (.d .no (.adj [] (.adj [.sel [1, 0], .nocap] .nil)))))))) (to_goal (q := (True) ∧ (((decide (a0 < (1 : Int))) = false → ((decide (a0 < (1 : Int))) = false ∧ (True) ∧ ((decide (a0 < (1 : Int))) = false ∧ (((decide (a0 > (1024 : Int))) = true → (True ∧ (True ∧ ((True) ∧ (True) ∧ (.tup [.one (.sc (.pointer none)), .one (.err (some (22 : Int)))] : Tm) = frames_New.R r ∧ ([] : List Box) = frames_New.B a0 r)))) ∧ ((decide (a0 > (1024 : Int))) = false → (0 ≤ a0 ∧ a0 = a0 ∧ (8 : Int) * a0 ≤ 281474976710656 ∧ a0 ≤ 9223372036854775807) ∧ (True ∧ ((True) ∧ ((True) ∧ (True) ∧ True) ∧ (.tup [.one (.ptr 0 ⟨0, 0, 0, 0⟩), .one (.err none)] : Tm) = frames_New.R r ∧ ([.ex false [.c (.os 1 0 0 1 (Int.toNat a0) none)] 58, .ex false [.row (Int.toNat a0) (.int .i64) (List.replicate (Int.toNat a0) (0 : Int))] 3] : List Box) = frames_New.B a0 r))))))) ∧ ((decide (a0 < (1 : Int))) = true → ((decide (a0 < (1 : Int))) = true ∧ ((decide (a0 < (1 : Int))) = true ∧ (true = true ∧ (True ∧ (True ∧ ((True) ∧ (True) ∧ (.tup [.one (.sc (.pointer none)), .one (.err (some (22 : Int)))] : Tm) = frames_New.R r ∧ ([] : List Box) = frames_New.B a0 r))))))))) (by kernel_rfl) ?_)
  refine ⟨trivial, ?_⟩
  refine ⟨fun b1 => ?_, fun b1 => ?_⟩
  · rw [if_neg (of_decide_eq_false b1)] at h
    refine ⟨b1, ?_⟩
    refine ⟨trivial, ?_⟩
    refine ⟨b1, ?_⟩
    refine ⟨fun b2 => ?_, fun b2 => ?_⟩
    · rw [if_pos (of_decide_eq_true b2)] at h
      refine ⟨trivial, ?_⟩
      refine ⟨trivial, ?_⟩
      obtain rfl := Option.some.inj h
      exact ⟨trivial, trivial, rfl, rfl⟩
    · rw [if_neg (of_decide_eq_false b2)] at h
      obtain ⟨g3, h⟩ := of_guard h
      refine ⟨g3, ?_⟩
      refine ⟨trivial, ?_⟩
      obtain rfl := Option.some.inj h
      exact ⟨trivial, ⟨trivial, trivial, trivial⟩, rfl, rfl⟩
  · rw [if_pos (of_decide_eq_true b1)] at h
    refine ⟨b1, ?_⟩
    refine ⟨b1, ?_⟩
    refine ⟨rfl, ?_⟩
    refine ⟨trivial, ?_⟩
    refine ⟨trivial, ?_⟩
    obtain rfl := Option.some.inj h
    exact ⟨trivial, trivial, rfl, rfl⟩
/-! (*halter/frames.Frames).Taken -/
def frames_Frames_Taken.l0 (a0 : Nat) (a1 : Nat) (a2 : (List Int)) : Nat → (List Int) → Int → Option (List Int)
  | 0, _, _ => none
  | n + 1, x12, x13 =>
    if x13 < ((a0 : Nat) : Int) then
      if 0 ≤ x13 ∧ x13 < ((a0 : Nat) : Int) then
        if (0 + (Int.toNat x13)) < a1 then
          if (List.getD a2 (0 + (Int.toNat x13)) (0 : Int)) > (0 : Int) then
            if (0 = 0 ∧ 1 = 1) ∧ 0 = 0 ∧ (List.length x12) = (List.length x12) ∧ (((List.length x12) + 1) * 8 ≤ 140737488355328 ∧ (List.length x12) + 1 ≤ 9223372036854775807) then
              frames_Frames_Taken.l0 a0 a1 a2 n (x12 ++ [x13]) (IntKind.wrap .i64 (x13 + (1 : Int)))
            else none
          else
            frames_Frames_Taken.l0 a0 a1 a2 n x12 (IntKind.wrap .i64 (x13 + (1 : Int)))
        else none
      else none
    else
      some x12
def frames_Frames_Taken.l0_S (a0 : Nat) (a1 : Nat) (a2 : (List Int)) (x12 : List Int) (x13 : Int) : St := ⟨[.any, .any, .any, .v (.one (.os 2 0 0 1 (List.length x12) none)), .any, .any, .any, .any, .any, .any, .any, .v (.one (.os 1 0 0 1 a0 none)), .v (.one (.sc (.int .i64 ((a0 : Nat) : Int)))), .v (.one (.sc (.int .i64 x13))), .any, .any, .any, .any, .any, .any, .any, .any, .any, .any, .any, .any], [.ex false [.c (.os 1 0 0 1 a0 none)] 58, .ex false [.row a1 (.int .i64) a2] 3, .gro false (.int .i64) x12 3], 2⟩
def frames_Frames_Taken.l0_Q (a0 : Nat) (a1 : Nat) (a2 : (List Int)) (t : (List Int)) : Exit → St → Prop := fun e s => e = (.exit 0) ∧ s = ⟨[.any, .any, .any, .v (.one (.os 2 0 0 1 (List.length t) none)), .any, .any, .any, .any, .any, .any, .any, .any, .any, .any, .any, .any, .any, .any, .any, .any, .any, .any, .any, .any, .any, .any], [.ex false [.c (.os 1 0 0 1 a0 none)] 58, .ex false [.row a1 (.int .i64) a2] 3, .gro false (.int .i64) t 3], 2⟩
theorem frames_Frames_Taken.l0_ok (a0 : Nat) (a1 : Nat) (a2 : (List Int)) : ∀ (n : Nat) (x12 : List Int) (x13 : Int) (r : (List Int)), frames_Frames_Taken.l0 a0 a1 a2 n x12 x13 = some r → TripN cfg (cpath (Tryd.f12.body.getD .skip) [1, 1, 1, 0, 1, 0, 0]) n (frames_Frames_Taken.l0_S a0 a1 a2 x12 x13) (frames_Frames_Taken.l0_Q a0 a1 a2 r) := by
  intro n
  induction n with
  | zero => intro x12 x13 r h; cases h
  | succ n ih =>
    intro x12 x13 r h
    rw [frames_Frames_Taken.l0] at h
    refine TripN.of_run cfg_ok (k := (.br (.br (.d (.b true) (.adj [] (.adj [.keep [3, 11, 12, 13], .drop 3] .nil))) (.adj [] (.adj [] (.adj [.keep [3, 11, 12, 13], .drop 3] .nil)))) (.adj [.keep [3], .drop 3] .nil))) (to_goal (q := (True) ∧ (((decide (x13 < ((a0 : Nat) : Int))) = true → (0 ≤ x13 ∧ x13 < ((a0 : Nat) : Int)) ∧ ((0 + (Int.toNat x13)) < a1) ∧ (True) ∧ (((decide ((List.getD a2 (0 + (Int.toNat x13)) (0 : Int)) > (0 : Int))) = true → ((0 = 0 ∧ 1 = 1) ∧ 0 = 0 ∧ (List.length x12) = (List.length x12) ∧ (((List.length x12) + 1) * 8 ≤ 140737488355328 ∧ (List.length x12) + 1 ≤ 9223372036854775807)) ∧ (True ∧ (True) ∧ (((True) ∧ (True) ∧ True) ∧ TripN cfg (cpath (Tryd.f12.body.getD .skip) [1, 1, 1, 0, 1, 0, 0]) n (frames_Frames_Taken.l0_S a0 a1 a2 (x12 ++ [x13]) (IntKind.wrap .i64 (x13 + (1 : Int)))) (frames_Frames_Taken.l0_Q a0 a1 a2 r)))) ∧ ((decide ((List.getD a2 (0 + (Int.toNat x13)) (0 : Int)) > (0 : Int))) = false → (True ∧ (True ∧ (True) ∧ (((True) ∧ (True) ∧ True) ∧ TripN cfg (cpath (Tryd.f12.body.getD .skip) [1, 1, 1, 0, 1, 0, 0]) n (frames_Frames_Taken.l0_S a0 a1 a2 x12 (IntKind.wrap .i64 (x13 + (1 : Int)))) (frames_Frames_Taken.l0_Q a0 a1 a2 r))))))) ∧ ((decide (x13 < ((a0 : Nat) : Int))) = false → (((True) ∧ (True) ∧ True) ∧ frames_Frames_Taken.l0_Q a0 a1 a2 r (.exit 0) ⟨[.any, .any, .any, .v (.one (.os 2 0 0 1 (List.length x12) none)), .any, .any, .any, .any, .any, .any, .any, .any, .any, .any, .any, .any, .any, .any, .any, .any, .any, .any, .any, .any, .any, .any], [.ex false [.c (.os 1 0 0 1 a0 none)] 58, .ex false [.row a1 (.int .i64) a2] 3, .gro false (.int .i64) x12 3], 2⟩)))) (by kernel_rfl) ?_)
    refine ⟨trivial, ?_⟩
    refine ⟨fun b21 => ?_, fun b21 => ?_⟩
    · rw [if_pos (of_decide_eq_true b21)] at h
      obtain ⟨g25, h⟩ := of_guard h
      refine ⟨g25, ?_⟩
      obtain ⟨g24, h⟩ := of_guard h
      refine ⟨g24, ?_⟩
      refine ⟨trivial, ?_⟩
      refine ⟨fun b22 => ?_, fun b22 => ?_⟩
      · rw [if_pos (of_decide_eq_true b22)] at h
        obtain ⟨g23, h⟩ := of_guard h
        refine ⟨g23, ?_⟩
        refine ⟨trivial, ?_⟩
        refine ⟨trivial, ?_⟩
        exact ⟨⟨trivial, trivial, trivial⟩, ih (x12 ++ [x13]) (IntKind.wrap .i64 (x13 + (1 : Int))) r h⟩
      · rw [if_neg (of_decide_eq_false b22)] at h
        refine ⟨trivial, ?_⟩
        refine ⟨trivial, ?_⟩
        refine ⟨trivial, ?_⟩
        exact ⟨⟨trivial, trivial, trivial⟩, ih x12 (IntKind.wrap .i64 (x13 + (1 : Int))) r h⟩
    · rw [if_neg (of_decide_eq_false b21)] at h
      obtain rfl := Option.some.inj h
      exact ⟨⟨trivial, trivial, trivial⟩, rfl, rfl⟩
def frames_Frames_Taken.f (a0 : Nat) (a1 : Nat) (a2 : (List Int)) : Option (List Int) :=
  (frames_Frames_Taken.l0 a0 a1 a2 FUEL ([] : List Int) (0 : Int)).bind fun t20 =>
  some t20
def frames_Frames_Taken.R (r : (List Int)) : Tm := .v (.one (.fs (.int .i64) r false))
def frames_Frames_Taken.B (a0 : Nat) (a1 : Nat) (a2 : (List Int)) (r : (List Int)) : List Box := [.ex false [.c (.os 1 0 0 1 a0 none)] 58, .ex false [.row a1 (.int .i64) a2] 3]
theorem frames_Frames_Taken.fun_ {a0 : Nat} {a1 : Nat} {a2 : (List Int)} {r : (List Int)} (h : frames_Frames_Taken.f a0 a1 a2 = some r) : Fun cfg 12 [.one (.ptr 0 ⟨0, 0, 0, 0⟩)] [.ex false [.c (.os 1 0 0 1 a0 none)] 58, .ex false [.row a1 (.int .i64) a2] 3] (frames_Frames_Taken.R r) (frames_Frames_Taken.B a0 a1 a2 r) := by
  unfold frames_Frames_Taken.f at h
  refine fun_of_run cfg_ok (f := 12) (fn := Tryd.f12) Tryd.func12 rfl (by kernel_rfl) (rs := [.tmp 2]) rfl (nt := 26) rfl (l := fin) (k := (.one false (.adj [] (.adj [] (.adj [] (.adj [] (.adj [.keep [3, 11, 12, 13], .nilGro 3 (.int .i64) 3] (.sub ((List Int)) (fun _ => (.exit 0)) (fun t20 => ⟨[.any, .any, .any, .v (.one (.os 2 0 0 1 (List.length t20) none)), .any, .any, .any, .any, .any, .any, .any, .any, .any, .any, .any, .any, .any, .any, .any, .any, .any, .any, .any, .any, .any, .any], [.ex false [.c (.os 1 0 0 1 a0 none)] 58, .ex false [.row a1 (.int .i64) a2] 3, .gro false (.int .i64) t20 3], 2⟩) (fun t20 => (.adj [] (.adj [] (.adj [.co 0 true [], .drop 2] .nil)))))))))))) (to_goal (q := (True) ∧ (false = false ∧ (True ∧ (True ∧ (True ∧ (True) ∧ (True) ∧ (True ∧ (((True) ∧ (True) ∧ True) ∧ (∃ t20 : (List Int), Trip cfg (.loop (cpath (Tryd.f12.body.getD .skip) [1, 1, 1, 0, 1, 0, 0])) ⟨[.any, .any, .any, .v (.one (.os 2 0 0 1 0 none)), .any, .any, .any, .any, .any, .any, .any, .v (.one (.os 1 0 0 1 a0 none)), .v (.one (.sc (.int .i64 ((a0 : Nat) : Int)))), .v (.one (.sc (.int .i64 (0 : Int)))), .any, .any, .any, .any, .any, .any, .any, .any, .any, .any, .any, .any], [.ex false [.c (.os 1 0 0 1 a0 none)] 58, .ex false [.row a1 (.int .i64) a2] 3, .gro false (.int .i64) ([] : List Int) 3], 2⟩ (fun e s => e = (.exit 0) ∧ s = ⟨[.any, .any, .any, .v (.one (.os 2 0 0 1 (List.length t20) none)), .any, .any, .any, .any, .any, .any, .any, .any, .any, .any, .any, .any, .any, .any, .any, .any, .any, .any, .any, .any, .any, .any], [.ex false [.c (.os 1 0 0 1 a0 none)] 58, .ex false [.row a1 (.int .i64) a2] 3, .gro false (.int .i64) t20 3], 2⟩) ∧ (True ∧ (True ∧ ((True) ∧ ((((0 = 0 ∧ (List.length t20) = (List.length t20))) ∧ True) ∧ (True) ∧ True) ∧ (.v (.one (.fs (.int .i64) t20 false)) : Tm) = frames_Frames_Taken.R r ∧ ([.ex false [.c (.os 1 0 0 1 a0 none)] 58, .ex false [.row a1 (.int .i64) a2] 3] : List Box) = frames_Frames_Taken.B a0 a1 a2 r))))))))))) (by kernel_rfl) ?_)
  refine ⟨trivial, ?_⟩
  refine ⟨rfl, ?_⟩
  refine ⟨trivial, ?_⟩
  refine ⟨trivial, ?_⟩
  refine ⟨trivial, ?_⟩
  refine ⟨trivial, ?_⟩
  refine ⟨trivial, ?_⟩
  refine ⟨trivial, ?_⟩
  obtain ⟨t20, ht20, h⟩ := of_bind h
  refine ⟨⟨trivial, trivial, trivial⟩, t20, Trip.loop FUEL (frames_Frames_Taken.l0_ok a0 a1 a2 FUEL ([] : List Int) (0 : Int) t20 ht20), ?_⟩
  refine ⟨trivial, ?_⟩
  refine ⟨trivial, ?_⟩
  obtain rfl := Option.some.inj h
  exact ⟨trivial, ⟨⟨⟨rfl, rfl⟩, trivial⟩, trivial, trivial⟩, rfl, rfl⟩
/-! (*halter/frames.Frames).Free -/
def frames_Frames_Free.f (a0 : Nat) (a1 : Nat) (a2 : (List Int)) : Option Int :=
  (frames_Frames_Taken.f a0 a1 a2).bind fun t1 =>
  some (IntKind.wrap .i64 (((a0 : Nat) : Int) - (((List.length t1) : Nat) : Int)))
def frames_Frames_Free.R (r : Int) : Tm := .v (.one (.sc (.int .i64 r)))
def frames_Frames_Free.B (a0 : Nat) (a1 : Nat) (a2 : (List Int)) (r : Int) : List Box := [.ex false [.c (.os 1 0 0 1 a0 none)] 58, .ex false [.row a1 (.int .i64) a2] 3]
theorem frames_Frames_Free.fun_ {a0 : Nat} {a1 : Nat} {a2 : (List Int)} {r : Int} (h : frames_Frames_Free.f a0 a1 a2 = some r) : Fun cfg 11 [.one (.ptr 0 ⟨0, 0, 0, 0⟩)] [.ex false [.c (.os 1 0 0 1 a0 none)] 58, .ex false [.row a1 (.int .i64) a2] 3] (frames_Frames_Free.R r) (frames_Frames_Free.B a0 a1 a2 r) := by
  unfold frames_Frames_Free.f at h
  refine fun_of_run cfg_ok (f := 11) (fn := Tryd.f11) Tryd.func11 rfl (by kernel_rfl) (rs := [.tmp 2]) rfl (nt := 14) rfl (l := fin) (k := (.one false (.ex ((List Int)) (fun t1 => (.drP [(0, dN), (1, dN), (2, dN), (5, dN), (3, ⟨none, .no, true⟩), (4, dN), (6, ⟨none, .callR true [] [0, 1] (frames_Frames_Taken.R t1) (frames_Frames_Taken.B a0 a1 a2 t1), true⟩), (7, dN), (8, dN), (9, dN)] [([0, 1, 2, 5, 6, 3, 4, 7, 8, 9], [0, 1])] ⟨[.v (.one (.ptr 0 ⟨0, 0, 0, 0⟩)), .any, .v (.one (.sc (.int .i64 (IntKind.wrap .i64 (((a0 : Nat) : Int) - (((List.length t1) : Nat) : Int)))))), .v (.one (.ptr 0 ⟨0, 0, 0, 0⟩)), .v (.one (.sc (.bool false))), .v (.one (.ptr 0 ⟨0, 0, 0, 0⟩)), .v (.one (.ptr 0 ⟨0, 0, 0, 0⟩)), .v (.one (.ptr 0 ⟨0, 0, 0, 0⟩)), .v (.one (.os 1 0 0 1 a0 none)), .v (.one (.sc (.int .i64 ((a0 : Nat) : Int)))), .v (.one (.ptr 0 ⟨0, 0, 0, 0⟩)), .v (.one (.fs (.int .i64) t1 false)), .v (.one (.sc (.int .i64 (((List.length t1) : Nat) : Int)))), .v (.one (.sc (.int .i64 (IntKind.wrap .i64 (((a0 : Nat) : Int) - (((List.length t1) : Nat) : Int))))))], [.ex false [.c (.os 1 0 0 1 a0 none)] 58, .ex false [.row a1 (.int .i64) a2] 3], 2⟩ (.adj [] (.adj [] .nil))))))) (to_goal (q := (True) ∧ (false = false ∧ (∃ t1 : (List Int), (((True) ∧ (True) ∧ (Fun cfg 12 [.one (.ptr 0 ⟨0, 0, 0, 0⟩)] [.ex false [.c (.os 1 0 0 1 a0 none)] 58, .ex false [.row a1 (.int .i64) a2] 3] (frames_Frames_Taken.R t1) (frames_Frames_Taken.B a0 a1 a2 t1) ∧ True) ∧ (True) ∧ (True) ∧ (⟨[.v (.one (.ptr 0 ⟨0, 0, 0, 0⟩)), .any, .v (.one (.sc (.int .i64 (IntKind.wrap .i64 (((a0 : Nat) : Int) - (((List.length t1) : Nat) : Int)))))), .v (.one (.ptr 0 ⟨0, 0, 0, 0⟩)), .v (.one (.sc (.bool false))), .v (.one (.ptr 0 ⟨0, 0, 0, 0⟩)), .v (.one (.ptr 0 ⟨0, 0, 0, 0⟩)), .v (.one (.ptr 0 ⟨0, 0, 0, 0⟩)), .v (.one (.os 1 0 0 1 a0 none)), .v (.one (.sc (.int .i64 ((a0 : Nat) : Int)))), .v (.one (.ptr 0 ⟨0, 0, 0, 0⟩)), .v (.one (.fs (.int .i64) t1 false)), .v (.one (.sc (.int .i64 (((List.length t1) : Nat) : Int)))), .v (.one (.sc (.int .i64 (IntKind.wrap .i64 (((a0 : Nat) : Int) - (((List.length t1) : Nat) : Int))))))], [.ex false [.c (.os 1 0 0 1 a0 none)] 58, .ex false [.row a1 (.int .i64) a2] 3], 2⟩ : St) = ⟨[.v (.one (.ptr 0 ⟨0, 0, 0, 0⟩)), .any, .v (.one (.sc (.int .i64 (IntKind.wrap .i64 (((a0 : Nat) : Int) - (((List.length t1) : Nat) : Int)))))), .v (.one (.ptr 0 ⟨0, 0, 0, 0⟩)), .v (.one (.sc (.bool false))), .v (.one (.ptr 0 ⟨0, 0, 0, 0⟩)), .v (.one (.ptr 0 ⟨0, 0, 0, 0⟩)), .v (.one (.ptr 0 ⟨0, 0, 0, 0⟩)), .v (.one (.os 1 0 0 1 a0 none)), .v (.one (.sc (.int .i64 ((a0 : Nat) : Int)))), .v (.one (.ptr 0 ⟨0, 0, 0, 0⟩)), .v (.one (.fs (.int .i64) t1 false)), .v (.one (.sc (.int .i64 (((List.length t1) : Nat) : Int)))), .v (.one (.sc (.int .i64 (IntKind.wrap .i64 (((a0 : Nat) : Int) - (((List.length t1) : Nat) : Int))))))], [.ex false [.c (.os 1 0 0 1 a0 none)] 58, .ex false [.row a1 (.int .i64) a2] 3], 2⟩) ∧ (((Fun cfg 12 [.one (.ptr 0 ⟨0, 0, 0, 0⟩)] [.ex false [.c (.os 1 0 0 1 a0 none)] 58, .ex false [.row a1 (.int .i64) a2] 3] (frames_Frames_Taken.R t1) (frames_Frames_Taken.B a0 a1 a2 t1) ∧ True) ∧ (True) ∧ (True) ∧ (True) ∧ (True) ∧ True ∧ (⟨[.v (.one (.ptr 0 ⟨0, 0, 0, 0⟩)), .any, .v (.one (.sc (.int .i64 (IntKind.wrap .i64 (((a0 : Nat) : Int) - (((List.length t1) : Nat) : Int)))))), .v (.one (.ptr 0 ⟨0, 0, 0, 0⟩)), .v (.one (.sc (.bool false))), .v (.one (.ptr 0 ⟨0, 0, 0, 0⟩)), .v (.one (.ptr 0 ⟨0, 0, 0, 0⟩)), .v (.one (.ptr 0 ⟨0, 0, 0, 0⟩)), .v (.one (.os 1 0 0 1 a0 none)), .v (.one (.sc (.int .i64 ((a0 : Nat) : Int)))), .v (.one (.ptr 0 ⟨0, 0, 0, 0⟩)), .v (.one (.fs (.int .i64) t1 false)), .v (.one (.sc (.int .i64 (((List.length t1) : Nat) : Int)))), .v (.one (.sc (.int .i64 (IntKind.wrap .i64 (((a0 : Nat) : Int) - (((List.length t1) : Nat) : Int))))))], [.ex false [.c (.os 1 0 0 1 a0 none)] 58, .ex false [.row a1 (.int .i64) a2] 3], 2⟩ : St) = ⟨[.v (.one (.ptr 0 ⟨0, 0, 0, 0⟩)), .any, .v (.one (.sc (.int .i64 (IntKind.wrap .i64 (((a0 : Nat) : Int) - (((List.length t1) : Nat) : Int)))))), .v (.one (.ptr 0 ⟨0, 0, 0, 0⟩)), .v (.one (.sc (.bool false))), .v (.one (.ptr 0 ⟨0, 0, 0, 0⟩)), .v (.one (.ptr 0 ⟨0, 0, 0, 0⟩)), .v (.one (.ptr 0 ⟨0, 0, 0, 0⟩)), .v (.one (.os 1 0 0 1 a0 none)), .v (.one (.sc (.int .i64 ((a0 : Nat) : Int)))), .v (.one (.ptr 0 ⟨0, 0, 0, 0⟩)), .v (.one (.fs (.int .i64) t1 false)), .v (.one (.sc (.int .i64 (((List.length t1) : Nat) : Int)))), .v (.one (.sc (.int .i64 (IntKind.wrap .i64 (((a0 : Nat) : Int) - (((List.length t1) : Nat) : Int))))))], [.ex false [.c (.os 1 0 0 1 a0 none)] 58, .ex false [.row a1 (.int .i64) a2] 3], 2⟩) ∧ True) ∧ (True ∧ ((True) ∧ (True) ∧ (.v (.one (.sc (.int .i64 (IntKind.wrap .i64 (((a0 : Nat) : Int) - (((List.length t1) : Nat) : Int)))))) : Tm) = frames_Frames_Free.R r ∧ ([.ex false [.c (.os 1 0 0 1 a0 none)] 58, .ex false [.row a1 (.int .i64) a2] 3] : List Box) = frames_Frames_Free.B a0 a1 a2 r)))))) (by kernel_rfl) ?_)
  refine ⟨trivial, ?_⟩
  refine ⟨rfl, ?_⟩
  obtain ⟨t1, ht1, h⟩ := of_bind h
  refine ⟨t1, ?_⟩
  refine ⟨⟨trivial, trivial, ⟨frames_Frames_Taken.fun_ ht1, trivial⟩, trivial, trivial, rfl⟩, ⟨⟨⟨frames_Frames_Taken.fun_ ht1, trivial⟩, trivial, trivial, trivial, trivial, trivial, rfl⟩, trivial⟩, ?_⟩
  refine ⟨trivial, ?_⟩
  obtain rfl := Option.some.inj h
  exact ⟨trivial, trivial, rfl, rfl⟩
/-! slices.Index[[]int,int] -/
def slices_Index_int_int.l0 (a0 : (List Int)) (a1 : Int) : Nat → Int → Option ((Unit) ⊕ (Int))
  | 0, _ => none
  | n + 1, x1 =>
    if x1 < (((List.length a0) : Nat) : Int) then
      if 0 ≤ x1 ∧ x1 < (((List.length a0) : Nat) : Int) then
        if a1 = (List.getD a0 (Int.toNat x1) (0 : Int)) then
          some (.inr x1)
        else
          slices_Index_int_int.l0 a0 a1 n (IntKind.wrap .i64 (x1 + (1 : Int)))
      else none
    else
      some (.inl ())
def slices_Index_int_int.l0_S (a0 : (List Int)) (a1 : Int) (x1 : Int) : St := ⟨[.v (.one (.fs (.int .i64) a0 false)), .v (.one (.sc (.int .i64 a1))), .any, .any, .any, .any, .any, .v (.one (.sc (.int .i64 (((List.length a0) : Nat) : Int)))), .v (.one (.sc (.int .i64 x1))), .any, .any, .any, .any, .any, .any, .any, .any, .any, .any], [], 0⟩
def slices_Index_int_int.l0_Q (a0 : (List Int)) (a1 : Int) : (Unit) ⊕ (Int) → Exit → St → Prop
  | .inl t => fun e s => e = (.exit 0) ∧ s = ⟨[.any, .any, .any, .any, .any, .any, .any, .any, .any, .any, .any, .any, .any, .any, .any, .any, .any, .any, .any], [], 0⟩
  | .inr t => fun e s => e = .ret ∧ s = ⟨[.any, .any, .any, .any, .v (.one (.sc (.int .i64 t))), .any, .any, .any, .any, .any, .any, .any, .any, .any, .any, .any, .any, .any, .any], [], 0⟩
theorem slices_Index_int_int.l0_ok (a0 : (List Int)) (a1 : Int) : ∀ (n : Nat) (x1 : Int) (r : (Unit) ⊕ (Int)), slices_Index_int_int.l0 a0 a1 n x1 = some r → TripN cfg (cpath (Tryd.f21.body.getD .skip) [1, 0, 1, 0, 0]) n (slices_Index_int_int.l0_S a0 a1 x1) (slices_Index_int_int.l0_Q a0 a1 r) := by
  intro n
  induction n with
  | zero => intro x1 r h; cases h
  | succ n ih =>
    intro x1 r h
    rw [slices_Index_int_int.l0] at h
    refine TripN.of_run cfg_ok (k := (.br (.br (.adj [] (.adj [.keep [4], .drop 0] .nil)) (.adj [] (.adj [] (.adj [.keep [0, 1, 7, 8], .drop 0] .nil)))) (.adj [.keep [], .drop 0] .nil))) (to_goal (q := (True) ∧ (((decide (x1 < (((List.length a0) : Nat) : Int))) = true → (0 ≤ x1 ∧ x1 < (((List.length a0) : Nat) : Int)) ∧ (True) ∧ (True) ∧ (((a1 == (List.getD a0 (Int.toNat x1) (0 : Int))) = true → (True ∧ (((True) ∧ (True) ∧ True) ∧ slices_Index_int_int.l0_Q a0 a1 r .ret ⟨[.any, .any, .any, .any, .v (.one (.sc (.int .i64 x1))), .any, .any, .any, .any, .any, .any, .any, .any, .any, .any, .any, .any, .any, .any], [], 0⟩))) ∧ ((a1 == (List.getD a0 (Int.toNat x1) (0 : Int))) = false → (True ∧ (True ∧ (True) ∧ (((True) ∧ (True) ∧ True) ∧ TripN cfg (cpath (Tryd.f21.body.getD .skip) [1, 0, 1, 0, 0]) n (slices_Index_int_int.l0_S a0 a1 (IntKind.wrap .i64 (x1 + (1 : Int)))) (slices_Index_int_int.l0_Q a0 a1 r))))))) ∧ ((decide (x1 < (((List.length a0) : Nat) : Int))) = false → (((True) ∧ (True) ∧ True) ∧ slices_Index_int_int.l0_Q a0 a1 r (.exit 0) ⟨[.any, .any, .any, .any, .any, .any, .any, .any, .any, .any, .any, .any, .any, .any, .any, .any, .any, .any, .any], [], 0⟩)))) (by kernel_rfl) ?_)
    refine ⟨trivial, ?_⟩
    refine ⟨fun b7 => ?_, fun b7 => ?_⟩
    · rw [if_pos (of_decide_eq_true b7)] at h
      obtain ⟨g9, h⟩ := of_guard h
      refine ⟨g9, ?_⟩
      refine ⟨trivial, ?_⟩
      refine ⟨trivial, ?_⟩
      refine ⟨fun b8 => ?_, fun b8 => ?_⟩
      · rw [if_pos (beq_t b8)] at h
        refine ⟨trivial, ?_⟩
        obtain rfl := Option.some.inj h
        exact ⟨⟨trivial, trivial, trivial⟩, rfl, rfl⟩
      · rw [if_neg (beq_f b8)] at h
        refine ⟨trivial, ?_⟩
        refine ⟨trivial, ?_⟩
        refine ⟨trivial, ?_⟩
        exact ⟨⟨trivial, trivial, trivial⟩, ih (IntKind.wrap .i64 (x1 + (1 : Int))) r h⟩
    · rw [if_neg (of_decide_eq_false b7)] at h
      obtain rfl := Option.some.inj h
      exact ⟨⟨trivial, trivial, trivial⟩, rfl, rfl⟩
def slices_Index_int_int.f (a0 : (List Int)) (a1 : Int) : Option Int :=
  (slices_Index_int_int.l0 a0 a1 FUEL (0 : Int)).bind fun t6 =>
  match t6 with
  | .inl t11 =>
    some (-1 : Int)
  | .inr t12 =>
    some t12
def slices_Index_int_int.R (r : Int) : Tm := .v (.one (.sc (.int .i64 r)))
theorem slices_Index_int_int.fun_ {a0 : (List Int)} {a1 : Int} {r : Int} (h : slices_Index_int_int.f a0 a1 = some r) : Fun cfg 21 [.one (.fs (.int .i64) a0 false), .one (.sc (.int .i64 a1))] [] (slices_Index_int_int.R r) [] := by
  unfold slices_Index_int_int.f at h
  refine fun_of_run cfg_ok (f := 21) (fn := Tryd.f21) Tryd.func21 rfl (by kernel_rfl) (rs := [.tmp 4]) rfl (nt := 19) rfl (l := fin) (k := (.adj [] (.adj [] (.adj [] (.adj [.keep [0, 1, 7, 8]] (.alt (.sub (Unit) (fun _ => (.exit 0)) (fun t11 => ⟨[.any, .any, .any, .any, .any, .any, .any, .any, .any, .any, .any, .any, .any, .any, .any, .any, .any, .any, .any], [], 0⟩) (fun t11 => (.adj [] (.adj [] (.adj [] .nil))))) (.sub (Int) (fun _ => .ret) (fun t12 => ⟨[.any, .any, .any, .any, .v (.one (.sc (.int .i64 t12))), .any, .any, .any, .any, .any, .any, .any, .any, .any, .any, .any, .any, .any, .any], [], 0⟩) (fun t12 => (.adj [] .nil))))))))) (to_goal (q := (True ∧ (True ∧ (True) ∧ (True ∧ (((True) ∧ True) ∧ ((∃ t11 : Unit, Trip cfg (.loop (cpath (Tryd.f21.body.getD .skip) [1, 0, 1, 0, 0])) ⟨[.v (.one (.fs (.int .i64) a0 false)), .v (.one (.sc (.int .i64 a1))), .any, .any, .any, .any, .any, .v (.one (.sc (.int .i64 (((List.length a0) : Nat) : Int)))), .v (.one (.sc (.int .i64 (0 : Int)))), .any, .any, .any, .any, .any, .any, .any, .any, .any, .any], [], 0⟩ (fun e s => e = (.exit 0) ∧ s = ⟨[.any, .any, .any, .any, .any, .any, .any, .any, .any, .any, .any, .any, .any, .any, .any, .any, .any, .any, .any], [], 0⟩) ∧ (True ∧ (True ∧ ((True) ∧ (True) ∧ (.v (.one (.sc (.int .i64 (-1 : Int)))) : Tm) = slices_Index_int_int.R r ∧ ([] : List Box) = [])))) ∨ (∃ t12 : Int, Trip cfg (.loop (cpath (Tryd.f21.body.getD .skip) [1, 0, 1, 0, 0])) ⟨[.v (.one (.fs (.int .i64) a0 false)), .v (.one (.sc (.int .i64 a1))), .any, .any, .any, .any, .any, .v (.one (.sc (.int .i64 (((List.length a0) : Nat) : Int)))), .v (.one (.sc (.int .i64 (0 : Int)))), .any, .any, .any, .any, .any, .any, .any, .any, .any, .any], [], 0⟩ (fun e s => e = .ret ∧ s = ⟨[.any, .any, .any, .any, .v (.one (.sc (.int .i64 t12))), .any, .any, .any, .any, .any, .any, .any, .any, .any, .any, .any, .any, .any, .any], [], 0⟩) ∧ ((True) ∧ (True) ∧ (.v (.one (.sc (.int .i64 t12))) : Tm) = slices_Index_int_int.R r ∧ ([] : List Box) = [])))))))) (by kernel_rfl) ?_)
  refine ⟨trivial, ?_⟩
  refine ⟨trivial, ?_⟩
  refine ⟨trivial, ?_⟩
  refine ⟨trivial, ?_⟩
  obtain ⟨t6, ht6, h⟩ := of_bind h
  refine ⟨⟨trivial, trivial⟩, ?_⟩
  rcases t6 with t11 | t12
  · dsimp only at h
    left
    refine ⟨t11, Trip.loop FUEL (slices_Index_int_int.l0_ok a0 a1 FUEL (0 : Int) (.inl t11) ht6), ?_⟩
    refine ⟨trivial, ?_⟩
    refine ⟨trivial, ?_⟩
    obtain rfl := Option.some.inj h
    exact ⟨trivial, trivial, rfl, rfl⟩
  · dsimp only at h
    right
    refine ⟨t12, Trip.loop FUEL (slices_Index_int_int.l0_ok a0 a1 FUEL (0 : Int) (.inr t12) ht6), ?_⟩
    obtain rfl := Option.some.inj h
    exact ⟨trivial, trivial, rfl, rfl⟩
/-! (*halter/frames.Frames).Alloc -/
def frames_Frames_Alloc.f (a0 : Nat) (a1 : Nat) (a2 : (List Int)) : Option (Int × (Option Int) × (List Int)) :=
  if 0 + a0 ≤ a1 then
    (slices_Index_int_int.f (List.take a0 a2) (0 : Int)).bind fun t1 =>
    if t1 < (0 : Int) then
      some ((0 : Int), (some (12 : Int)), a2)
    else
      if 0 ≤ t1 ∧ t1 < ((a0 : Nat) : Int) then
        if (0 + (Int.toNat t1)) < a1 then
          some (t1, none, (List.set a2 (0 + (Int.toNat t1)) (1 : Int)))
        else none
      else none
  else none
def frames_Frames_Alloc.R (r : Int × (Option Int) × (List Int)) : Tm := .tup [.one (.sc (.int .i64 r.1)), .one (.err r.2.1)]
def frames_Frames_Alloc.B (a0 : Nat) (a1 : Nat) (a2 : (List Int)) (r : Int × (Option Int) × (List Int)) : List Box := [.ex false [.c (.os 1 0 0 1 a0 none)] 58, .ex false [.row a1 (.int .i64) r.2.2] 3]
theorem frames_Frames_Alloc.fun_ {a0 : Nat} {a1 : Nat} {a2 : (List Int)} {r : Int × (Option Int) × (List Int)} (h : frames_Frames_Alloc.f a0 a1 a2 = some r) : Fun cfg 6 [.one (.ptr 0 ⟨0, 0, 0, 0⟩)] [.ex false [.c (.os 1 0 0 1 a0 none)] 58, .ex false [.row a1 (.int .i64) a2] 3] (frames_Frames_Alloc.R r) (frames_Frames_Alloc.B a0 a1 a2 r) := by
  unfold frames_Frames_Alloc.f at h
  refine fun_of_run cfg_ok (f := 6) (fn := Tryd.f6) Tryd.func6 rfl (by kernel_rfl) (rs := [.tmp 2, .tmp 3]) rfl (nt := 23) rfl (l := fin) (k := (.one false (.call false [] (Int) (fun t1 => slices_Index_int_int.R t1) (fun t1 => (.br (.adj [] (.adj [] (.adj [] .nil))) (.adj [] (.adj [] (.adj [] (.adj [] (.adj [] .nil)))))))))) (to_goal (q := (True) ∧ (false = false ∧ (True) ∧ (∃ t1 : Int, ((0 + a0 ≤ a1) ∧ Fun cfg 21 [.one (.fs (.int .i64) (List.take a0 a2) false), .one (.sc (.int .i64 (0 : Int)))] [] (slices_Index_int_int.R t1) [] ∧ True) ∧ (True) ∧ (((decide (t1 < (0 : Int))) = true → (True ∧ (True ∧ ((True) ∧ (True) ∧ (.tup [.one (.sc (.int .i64 (0 : Int))), .one (.err (some (12 : Int)))] : Tm) = frames_Frames_Alloc.R r ∧ ([.ex false [.c (.os 1 0 0 1 a0 none)] 58, .ex false [.row a1 (.int .i64) a2] 3] : List Box) = frames_Frames_Alloc.B a0 a1 a2 r)))) ∧ ((decide (t1 < (0 : Int))) = false → (True ∧ (True ∧ (True) ∧ (0 ≤ t1 ∧ t1 < ((a0 : Nat) : Int)) ∧ ((0 + (Int.toNat t1)) < a1) ∧ (True ∧ (True ∧ ((True) ∧ (True) ∧ (.tup [.one (.sc (.int .i64 t1)), .one (.err none)] : Tm) = frames_Frames_Alloc.R r ∧ ([.ex false [.c (.os 1 0 0 1 a0 none)] 58, .ex false [.row a1 (.int .i64) (List.set a2 (0 + (Int.toNat t1)) (1 : Int))] 3] : List Box) = frames_Frames_Alloc.B a0 a1 a2 r)))))))))) (by kernel_rfl) ?_)
  refine ⟨trivial, ?_⟩
  refine ⟨rfl, ?_⟩
  refine ⟨trivial, ?_⟩
  obtain ⟨g5, h⟩ := of_guard h
  obtain ⟨t1, ht1, h⟩ := of_bind h
  refine ⟨t1, ⟨g5, slices_Index_int_int.fun_ ht1, trivial⟩, ?_⟩
  refine ⟨trivial, ?_⟩
  refine ⟨fun b2 => ?_, fun b2 => ?_⟩
  · rw [if_pos (of_decide_eq_true b2)] at h
    refine ⟨trivial, ?_⟩
    refine ⟨trivial, ?_⟩
    obtain rfl := Option.some.inj h
    exact ⟨trivial, trivial, rfl, rfl⟩
  · rw [if_neg (of_decide_eq_false b2)] at h
    refine ⟨trivial, ?_⟩
    refine ⟨trivial, ?_⟩
    refine ⟨trivial, ?_⟩
    obtain ⟨g4, h⟩ := of_guard h
    refine ⟨g4, ?_⟩
    obtain ⟨g3, h⟩ := of_guard h
    refine ⟨g3, ?_⟩
    refine ⟨trivial, ?_⟩
    refine ⟨trivial, ?_⟩
    obtain rfl := Option.some.inj h
    exact ⟨trivial, trivial, rfl, rfl⟩
/-! (*halter/frames.Frames).Refs -/
def frames_Frames_Refs.f (a0 : Int) (a1 : Nat) (a2 : Nat) (a3 : (List Int)) : Option Int :=
  if a0 < (0 : Int) then
    some (0 : Int)
  else
    if a0 ≥ ((a1 : Nat) : Int) then
      some (0 : Int)
    else
      if 0 ≤ a0 ∧ a0 < ((a1 : Nat) : Int) then
        if (0 + (Int.toNat a0)) < a2 then
          some (List.getD a3 (0 + (Int.toNat a0)) (0 : Int))
        else none
      else none
def frames_Frames_Refs.R (r : Int) : Tm := .v (.one (.sc (.int .i64 r)))
def frames_Frames_Refs.B (a0 : Int) (a1 : Nat) (a2 : Nat) (a3 : (List Int)) (r : Int) : List Box := [.ex false [.c (.os 1 0 0 1 a1 none)] 58, .ex false [.row a2 (.int .i64) a3] 3]
theorem frames_Frames_Refs.fun_ {a0 : Int} {a1 : Nat} {a2 : Nat} {a3 : (List Int)} {r : Int} (h : frames_Frames_Refs.f a0 a1 a2 a3 = some r) : Fun cfg 10 [.one (.ptr 0 ⟨0, 0, 0, 0⟩), .one (.sc (.int .i64 a0))] [.ex false [.c (.os 1 0 0 1 a1 none)] 58, .ex false [.row a2 (.int .i64) a3] 3] (frames_Frames_Refs.R r) (frames_Frames_Refs.B a0 a1 a2 a3 r) := by
  unfold frames_Frames_Refs.f at h
  refine fun_of_run cfg_ok (f := 10) (fn := Tryd.f10) Tryd.func10 rfl (by kernel_rfl) (rs := [.tmp 4]) rfl (nt := 27) rfl (l := fin) (k := (.one false (.one false (.one false (.br (.one true (.one true (.one true (.one true (.one true (.one true (.one true (.one true (.adj [] (.adj [] (.adj [] .nil))))))))))) (.one false (.one false (.one false (.one false (.one false (.one false (.one false (.br (.adj [] (.adj [] (.adj [] .nil))) (.adj [] (.adj [] (.adj [] (.adj [] .nil))))))))))))))))) (to_goal (q := (True) ∧ (false = false ∧ (false = false ∧ (True) ∧ (false = false ∧ (((decide (a0 < (0 : Int))) = false → ((decide (a0 < (0 : Int))) = false ∧ ((decide (a0 < (0 : Int))) = false ∧ ((decide (a0 < (0 : Int))) = false ∧ ((decide (a0 < (0 : Int))) = false ∧ (True) ∧ ((decide (a0 < (0 : Int))) = false ∧ (True) ∧ ((decide (a0 < (0 : Int))) = false ∧ (True) ∧ ((decide (a0 < (0 : Int))) = false ∧ (((decide (a0 ≥ ((a1 : Nat) : Int))) = true → (True ∧ (True ∧ ((True) ∧ (True) ∧ (.v (.one (.sc (.int .i64 (0 : Int)))) : Tm) = frames_Frames_Refs.R r ∧ ([.ex false [.c (.os 1 0 0 1 a1 none)] 58, .ex false [.row a2 (.int .i64) a3] 3] : List Box) = frames_Frames_Refs.B a0 a1 a2 a3 r)))) ∧ ((decide (a0 ≥ ((a1 : Nat) : Int))) = false → (True ∧ (True ∧ (True) ∧ (0 ≤ a0 ∧ a0 < ((a1 : Nat) : Int)) ∧ ((0 + (Int.toNat a0)) < a2) ∧ (True ∧ ((True) ∧ (True) ∧ (.v (.one (.sc (.int .i64 (List.getD a3 (0 + (Int.toNat a0)) (0 : Int))))) : Tm) = frames_Frames_Refs.R r ∧ ([.ex false [.c (.os 1 0 0 1 a1 none)] 58, .ex false [.row a2 (.int .i64) a3] 3] : List Box) = frames_Frames_Refs.B a0 a1 a2 a3 r)))))))))))))) ∧ ((decide (a0 < (0 : Int))) = true → ((decide (a0 < (0 : Int))) = true ∧ ((decide (a0 < (0 : Int))) = true ∧ ((decide (a0 < (0 : Int))) = true ∧ ((decide (a0 < (0 : Int))) = true ∧ ((decide (a0 < (0 : Int))) = true ∧ ((decide (a0 < (0 : Int))) = true ∧ ((decide (a0 < (0 : Int))) = true ∧ (true = true ∧ (True ∧ (True ∧ ((True) ∧ (True) ∧ (.v (.one (.sc (.int .i64 (0 : Int)))) : Tm) = frames_Frames_Refs.R r ∧ ([.ex false [.c (.os 1 0 0 1 a1 none)] 58, .ex false [.row a2 (.int .i64) a3] 3] : List Box) = frames_Frames_Refs.B a0 a1 a2 a3 r))))))))))))))))) (by kernel_rfl) ?_)
  refine ⟨trivial, ?_⟩
  refine ⟨rfl, ?_⟩
  refine ⟨rfl, ?_⟩
  refine ⟨trivial, ?_⟩
  refine ⟨rfl, ?_⟩
  refine ⟨fun b1 => ?_, fun b1 => ?_⟩
  · rw [if_neg (of_decide_eq_false b1)] at h
    refine ⟨b1, ?_⟩
    refine ⟨b1, ?_⟩
    refine ⟨b1, ?_⟩
    refine ⟨b1, ?_⟩
    refine ⟨trivial, ?_⟩
    refine ⟨b1, ?_⟩
    refine ⟨trivial, ?_⟩
    refine ⟨b1, ?_⟩
    refine ⟨trivial, ?_⟩
    refine ⟨b1, ?_⟩
    refine ⟨fun b2 => ?_, fun b2 => ?_⟩
    · rw [if_pos (of_decide_eq_true b2)] at h
      refine ⟨trivial, ?_⟩
      refine ⟨trivial, ?_⟩
      obtain rfl := Option.some.inj h
      exact ⟨trivial, trivial, rfl, rfl⟩
    · rw [if_neg (of_decide_eq_false b2)] at h
      refine ⟨trivial, ?_⟩
      refine ⟨trivial, ?_⟩
      refine ⟨trivial, ?_⟩
      obtain ⟨g4, h⟩ := of_guard h
      refine ⟨g4, ?_⟩
      obtain ⟨g3, h⟩ := of_guard h
      refine ⟨g3, ?_⟩
      refine ⟨trivial, ?_⟩
      obtain rfl := Option.some.inj h
      exact ⟨trivial, trivial, rfl, rfl⟩
  · rw [if_pos (of_decide_eq_true b1)] at h
    refine ⟨b1, ?_⟩
    refine ⟨b1, ?_⟩
    refine ⟨b1, ?_⟩
    refine ⟨b1, ?_⟩
    refine ⟨b1, ?_⟩
    refine ⟨b1, ?_⟩
    refine ⟨b1, ?_⟩
    refine ⟨rfl, ?_⟩
    refine ⟨trivial, ?_⟩
    refine ⟨trivial, ?_⟩
    obtain rfl := Option.some.inj h
    exact ⟨trivial, trivial, rfl, rfl⟩
/-! (*halter/frames.Frames).taken -/
def frames_Frames_taken.f (a0 : Int) (a1 : Nat) (a2 : Nat) (a3 : (List Int)) : Option Bool :=
  (frames_Frames_Refs.f a0 a1 a2 a3).bind fun t1 =>
  some (decide (t1 > (0 : Int)))
def frames_Frames_taken.R (r : Bool) : Tm := .v (.one (.sc (.bool r)))
def frames_Frames_taken.B (a0 : Int) (a1 : Nat) (a2 : Nat) (a3 : (List Int)) (r : Bool) : List Box := [.ex false [.c (.os 1 0 0 1 a1 none)] 58, .ex false [.row a2 (.int .i64) a3] 3]
theorem frames_Frames_taken.fun_ {a0 : Int} {a1 : Nat} {a2 : Nat} {a3 : (List Int)} {r : Bool} (h : frames_Frames_taken.f a0 a1 a2 a3 = some r) : Fun cfg 22 [.one (.ptr 0 ⟨0, 0, 0, 0⟩), .one (.sc (.int .i64 a0))] [.ex false [.c (.os 1 0 0 1 a1 none)] 58, .ex false [.row a2 (.int .i64) a3] 3] (frames_Frames_taken.R r) (frames_Frames_taken.B a0 a1 a2 a3 r) := by
  unfold frames_Frames_taken.f at h
  refine fun_of_run cfg_ok (f := 22) (fn := Tryd.f22) Tryd.func22 rfl (by kernel_rfl) (rs := [.tmp 4]) rfl (nt := 9) rfl (l := fin) (k := (.callR true [] [0, 1] (Int) (fun t1 => (frames_Frames_Refs.R t1)) (fun t1 => (frames_Frames_Refs.B a0 a1 a2 a3 t1)) (fun t1 => (.adj [] (.adj [] .nil))))) (to_goal (q := (∃ t1 : Int, (Fun cfg 10 [.one (.ptr 0 ⟨0, 0, 0, 0⟩), .one (.sc (.int .i64 a0))] [.ex false [.c (.os 1 0 0 1 a1 none)] 58, .ex false [.row a2 (.int .i64) a3] 3] (frames_Frames_Refs.R t1) (frames_Frames_Refs.B a0 a1 a2 a3 t1) ∧ True) ∧ (True) ∧ (True ∧ ((True) ∧ (True) ∧ (.v (.one (.sc (.bool (decide (t1 > (0 : Int)))))) : Tm) = frames_Frames_taken.R r ∧ ([.ex false [.c (.os 1 0 0 1 a1 none)] 58, .ex false [.row a2 (.int .i64) a3] 3] : List Box) = frames_Frames_taken.B a0 a1 a2 a3 r)))) (by kernel_rfl) ?_)
  obtain ⟨t1, ht1, h⟩ := of_bind h
  refine ⟨t1, ⟨frames_Frames_Refs.fun_ ht1, trivial⟩, ?_⟩
  refine ⟨trivial, ?_⟩
  refine ⟨trivial, ?_⟩
  obtain rfl := Option.some.inj h
  exact ⟨trivial, trivial, rfl, rfl⟩
/-! (*halter/frames.Frames).Ref -/
def frames_Frames_Ref.f (a0 : Int) (a1 : Nat) (a2 : Nat) (a3 : (List Int)) : Option ((Option Int) × (List Int)) :=
  (frames_Frames_taken.f a0 a1 a2 a3).bind fun t1 =>
  if ¬ (t1 = true) then
    some ((some (22 : Int)), a3)
  else
    if 0 ≤ a0 ∧ a0 < ((a1 : Nat) : Int) then
      if (0 + (Int.toNat a0)) < a2 then
        if (List.getD a3 (0 + (Int.toNat a0)) (0 : Int)) ≥ (1073741824 : Int) then
          some ((some (22 : Int)), a3)
        else
          if 0 ≤ a0 ∧ a0 < ((a1 : Nat) : Int) then
            if (0 + (Int.toNat a0)) < a2 then
              if 0 ≤ a0 ∧ a0 < ((a1 : Nat) : Int) then
                if (0 + (Int.toNat a0)) < a2 then
                  some (none, (List.set a3 (0 + (Int.toNat a0)) (IntKind.wrap .i64 ((List.getD a3 (0 + (Int.toNat a0)) (0 : Int)) + (1 : Int)))))
                else none
              else none
            else none
          else none
      else none
    else none
def frames_Frames_Ref.R (r : (Option Int) × (List Int)) : Tm := .v (.one (.err r.1))
def frames_Frames_Ref.B (a0 : Int) (a1 : Nat) (a2 : Nat) (a3 : (List Int)) (r : (Option Int) × (List Int)) : List Box := [.ex false [.c (.os 1 0 0 1 a1 none)] 58, .ex false [.row a2 (.int .i64) r.2] 3]
theorem frames_Frames_Ref.fun_ {a0 : Int} {a1 : Nat} {a2 : Nat} {a3 : (List Int)} {r : (Option Int) × (List Int)} (h : frames_Frames_Ref.f a0 a1 a2 a3 = some r) : Fun cfg 9 [.one (.ptr 0 ⟨0, 0, 0, 0⟩), .one (.sc (.int .i64 a0))] [.ex false [.c (.os 1 0 0 1 a1 none)] 58, .ex false [.row a2 (.int .i64) a3] 3] (frames_Frames_Ref.R r) (frames_Frames_Ref.B a0 a1 a2 a3 r) := by
  unfold frames_Frames_Ref.f at h
  refine fun_of_run cfg_ok (f := 9) (fn := Tryd.f9) Tryd.func9 rfl (by kernel_rfl) (rs := [.tmp 4]) rfl (nt := 29) rfl (l := fin) (k := (.callR true [] [0, 1] (Bool) (fun t1 => (frames_Frames_taken.R t1)) (fun t1 => (frames_Frames_taken.B a0 a1 a2 a3 t1)) (fun t1 => (.br (.one true (.one true (.one true (.one true (.one true (.one true (.one true (.one true (.one true (.adj [] (.adj [] (.adj [] .nil)))))))))))) (.one false (.one false (.one false (.one false (.one false (.one false (.one false (.one false (.br (.adj [] (.adj [] (.adj [] .nil))) (.adj [] (.adj [] (.adj [] (.adj [] (.adj [] .nil)))))))))))))))))) (to_goal (q := (∃ t1 : Bool, (Fun cfg 22 [.one (.ptr 0 ⟨0, 0, 0, 0⟩), .one (.sc (.int .i64 a0))] [.ex false [.c (.os 1 0 0 1 a1 none)] 58, .ex false [.row a2 (.int .i64) a3] 3] (frames_Frames_taken.R t1) (frames_Frames_taken.B a0 a1 a2 a3 t1) ∧ True) ∧ (((!t1) = false → ((!t1) = false ∧ ((!t1) = false ∧ ((!t1) = false ∧ (True) ∧ ((!t1) = false ∧ ((!t1) = false ∧ (0 ≤ a0 ∧ a0 < ((a1 : Nat) : Int)) ∧ ((!t1) = false ∧ ((0 + (Int.toNat a0)) < a2) ∧ ((!t1) = false ∧ (True) ∧ ((!t1) = false ∧ (((decide ((List.getD a3 (0 + (Int.toNat a0)) (0 : Int)) ≥ (1073741824 : Int))) = true → (True ∧ (True ∧ ((True) ∧ (True) ∧ (.v (.one (.err (some (22 : Int)))) : Tm) = frames_Frames_Ref.R r ∧ ([.ex false [.c (.os 1 0 0 1 a1 none)] 58, .ex false [.row a2 (.int .i64) a3] 3] : List Box) = frames_Frames_Ref.B a0 a1 a2 a3 r)))) ∧ ((decide ((List.getD a3 (0 + (Int.toNat a0)) (0 : Int)) ≥ (1073741824 : Int))) = false → (True ∧ (True ∧ (True) ∧ (0 ≤ a0 ∧ a0 < ((a1 : Nat) : Int)) ∧ ((0 + (Int.toNat a0)) < a2) ∧ (True) ∧ (0 ≤ a0 ∧ a0 < ((a1 : Nat) : Int)) ∧ ((0 + (Int.toNat a0)) < a2) ∧ (True ∧ (True ∧ ((True) ∧ (True) ∧ (.v (.one (.err none)) : Tm) = frames_Frames_Ref.R r ∧ ([.ex false [.c (.os 1 0 0 1 a1 none)] 58, .ex false [.row a2 (.int .i64) (List.set a3 (0 + (Int.toNat a0)) (IntKind.wrap .i64 ((List.getD a3 (0 + (Int.toNat a0)) (0 : Int)) + (1 : Int))))] 3] : List Box) = frames_Frames_Ref.B a0 a1 a2 a3 r)))))))))))))))) ∧ ((!t1) = true → ((!t1) = true ∧ ((!t1) = true ∧ ((!t1) = true ∧ ((!t1) = true ∧ ((!t1) = true ∧ ((!t1) = true ∧ ((!t1) = true ∧ ((!t1) = true ∧ (true = true ∧ (True ∧ (True ∧ ((True) ∧ (True) ∧ (.v (.one (.err (some (22 : Int)))) : Tm) = frames_Frames_Ref.R r ∧ ([.ex false [.c (.os 1 0 0 1 a1 none)] 58, .ex false [.row a2 (.int .i64) a3] 3] : List Box) = frames_Frames_Ref.B a0 a1 a2 a3 r)))))))))))))))) (by kernel_rfl) ?_)
  obtain ⟨t1, ht1, h⟩ := of_bind h
  refine ⟨t1, ⟨frames_Frames_taken.fun_ ht1, trivial⟩, ?_⟩
  refine ⟨fun b2 => ?_, fun b2 => ?_⟩
  · rw [if_neg (not_not_intro (not_f b2))] at h
    refine ⟨b2, ?_⟩
    refine ⟨b2, ?_⟩
    refine ⟨b2, ?_⟩
    refine ⟨trivial, ?_⟩
    refine ⟨b2, ?_⟩
    refine ⟨b2, ?_⟩
    obtain ⟨g9, h⟩ := of_guard h
    refine ⟨g9, ?_⟩
    refine ⟨b2, ?_⟩
    obtain ⟨g8, h⟩ := of_guard h
    refine ⟨g8, ?_⟩
    refine ⟨b2, ?_⟩
    refine ⟨trivial, ?_⟩
    refine ⟨b2, ?_⟩
    refine ⟨fun b3 => ?_, fun b3 => ?_⟩
    · rw [if_pos (of_decide_eq_true b3)] at h
      refine ⟨trivial, ?_⟩
      refine ⟨trivial, ?_⟩
      obtain rfl := Option.some.inj h
      exact ⟨trivial, trivial, rfl, rfl⟩
    · rw [if_neg (of_decide_eq_false b3)] at h
      refine ⟨trivial, ?_⟩
      refine ⟨trivial, ?_⟩
      refine ⟨trivial, ?_⟩
      obtain ⟨g7, h⟩ := of_guard h
      refine ⟨g7, ?_⟩
      obtain ⟨g6, h⟩ := of_guard h
      refine ⟨g6, ?_⟩
      refine ⟨trivial, ?_⟩
      obtain ⟨g5, h⟩ := of_guard h
      refine ⟨g5, ?_⟩
      obtain ⟨g4, h⟩ := of_guard h
      refine ⟨g4, ?_⟩
      refine ⟨trivial, ?_⟩
      refine ⟨trivial, ?_⟩
      obtain rfl := Option.some.inj h
      exact ⟨trivial, trivial, rfl, rfl⟩
  · rw [if_pos (ff (not_t b2))] at h
    refine ⟨b2, ?_⟩
    refine ⟨b2, ?_⟩
    refine ⟨b2, ?_⟩
    refine ⟨b2, ?_⟩
    refine ⟨b2, ?_⟩
    refine ⟨b2, ?_⟩
    refine ⟨b2, ?_⟩
    refine ⟨b2, ?_⟩
    refine ⟨rfl, ?_⟩
    refine ⟨trivial, ?_⟩
    refine ⟨trivial, ?_⟩
    obtain rfl := Option.some.inj h
    exact ⟨trivial, trivial, rfl, rfl⟩
/-! (*halter/frames.Frames).Unref -/
def frames_Frames_Unref.c0 (a3 : (List Int)) (a0 : Int) : Bool := ((List.getD (List.set a3 (0 + (Int.toNat a0)) (IntKind.wrap .i64 ((List.getD a3 (0 + (Int.toNat a0)) (0 : Int)) - (1 : Int)))) (0 + (Int.toNat a0)) (0 : Int)) == (0 : Int))
def frames_Frames_Unref.f (a0 : Int) (a1 : Nat) (a2 : Nat) (a3 : (List Int)) : Option (Bool × (Option Int) × (List Int)) :=
  (frames_Frames_taken.f a0 a1 a2 a3).bind fun t1 =>
  if ¬ (t1 = true) then
    some (false, (some (22 : Int)), a3)
  else
    if 0 ≤ a0 ∧ a0 < ((a1 : Nat) : Int) then
      if (0 + (Int.toNat a0)) < a2 then
        if 0 ≤ a0 ∧ a0 < ((a1 : Nat) : Int) then
          if (0 + (Int.toNat a0)) < a2 then
            if 0 ≤ a0 ∧ a0 < ((a1 : Nat) : Int) then
              if (0 + (Int.toNat a0)) < a2 then
                some (((List.getD (List.set a3 (0 + (Int.toNat a0)) (IntKind.wrap .i64 ((List.getD a3 (0 + (Int.toNat a0)) (0 : Int)) - (1 : Int)))) (0 + (Int.toNat a0)) (0 : Int)) == (0 : Int)), none, (List.set a3 (0 + (Int.toNat a0)) (IntKind.wrap .i64 ((List.getD a3 (0 + (Int.toNat a0)) (0 : Int)) - (1 : Int)))))
              else none
            else none
          else none
        else none
      else none
    else none
def frames_Frames_Unref.R (r : Bool × (Option Int) × (List Int)) : Tm := .tup [.one (.sc (.bool r.1)), .one (.err r.2.1)]
def frames_Frames_Unref.B (a0 : Int) (a1 : Nat) (a2 : Nat) (a3 : (List Int)) (r : Bool × (Option Int) × (List Int)) : List Box := [.ex false [.c (.os 1 0 0 1 a1 none)] 58, .ex false [.row a2 (.int .i64) r.2.2] 3]
theorem frames_Frames_Unref.fun_ {a0 : Int} {a1 : Nat} {a2 : Nat} {a3 : (List Int)} {r : Bool × (Option Int) × (List Int)} (h : frames_Frames_Unref.f a0 a1 a2 a3 = some r) : Fun cfg 7 [.one (.ptr 0 ⟨0, 0, 0, 0⟩), .one (.sc (.int .i64 a0))] [.ex false [.c (.os 1 0 0 1 a1 none)] 58, .ex false [.row a2 (.int .i64) a3] 3] (frames_Frames_Unref.R r) (frames_Frames_Unref.B a0 a1 a2 a3 r) := by
  unfold frames_Frames_Unref.f at h
  refine fun_of_run cfg_ok (f := 7) (fn := Tryd.f7) Tryd.func7 rfl (by kernel_rfl) (rs := [.tmp 4, .tmp 5]) rfl (nt := 28) rfl (l := fin) (k := (.callR true [] [0, 1] (Bool) (fun t1 => (frames_Frames_taken.R t1)) (fun t1 => (frames_Frames_taken.B a0 a1 a2 a3 t1)) (fun t1 => (.br (.adj [] (.adj [] (.adj [] .nil))) (.adj [] (.adj [] (.adj [] (.adj [] (.adj [] .nil))))))))) (to_goal (q := (∃ t1 : Bool, (Fun cfg 22 [.one (.ptr 0 ⟨0, 0, 0, 0⟩), .one (.sc (.int .i64 a0))] [.ex false [.c (.os 1 0 0 1 a1 none)] 58, .ex false [.row a2 (.int .i64) a3] 3] (frames_Frames_taken.R t1) (frames_Frames_taken.B a0 a1 a2 a3 t1) ∧ True) ∧ (((!t1) = true → (True ∧ (True ∧ ((True) ∧ (True) ∧ (.tup [.one (.sc (.bool false)), .one (.err (some (22 : Int)))] : Tm) = frames_Frames_Unref.R r ∧ ([.ex false [.c (.os 1 0 0 1 a1 none)] 58, .ex false [.row a2 (.int .i64) a3] 3] : List Box) = frames_Frames_Unref.B a0 a1 a2 a3 r)))) ∧ ((!t1) = false → (True ∧ (True ∧ (True) ∧ (0 ≤ a0 ∧ a0 < ((a1 : Nat) : Int)) ∧ ((0 + (Int.toNat a0)) < a2) ∧ (True) ∧ (0 ≤ a0 ∧ a0 < ((a1 : Nat) : Int)) ∧ ((0 + (Int.toNat a0)) < a2) ∧ (True ∧ (True) ∧ (0 ≤ a0 ∧ a0 < ((a1 : Nat) : Int)) ∧ ((0 + (Int.toNat a0)) < a2) ∧ (True) ∧ (True ∧ ((True) ∧ (True) ∧ (.tup [.one (.sc (.bool (frames_Frames_Unref.c0 a3 a0))), .one (.err none)] : Tm) = frames_Frames_Unref.R r ∧ ([.ex false [.c (.os 1 0 0 1 a1 none)] 58, .ex false [.row a2 (.int .i64) (List.set a3 (0 + (Int.toNat a0)) (IntKind.wrap .i64 ((List.getD a3 (0 + (Int.toNat a0)) (0 : Int)) - (1 : Int))))] 3] : List Box) = frames_Frames_Unref.B a0 a1 a2 a3 r))))))))) (by kernel_rfl) ?_)
  obtain ⟨t1, ht1, h⟩ := of_bind h
  refine ⟨t1, ⟨frames_Frames_taken.fun_ ht1, trivial⟩, ?_⟩
  refine ⟨fun b2 => ?_, fun b2 => ?_⟩
  · rw [if_pos (ff (not_t b2))] at h
    refine ⟨trivial, ?_⟩
    refine ⟨trivial, ?_⟩
    obtain rfl := Option.some.inj h
    exact ⟨trivial, trivial, rfl, rfl⟩
  · rw [if_neg (not_not_intro (not_f b2))] at h
    refine ⟨trivial, ?_⟩
    refine ⟨trivial, ?_⟩
    refine ⟨trivial, ?_⟩
    obtain ⟨g8, h⟩ := of_guard h
    refine ⟨g8, ?_⟩
    obtain ⟨g7, h⟩ := of_guard h
    refine ⟨g7, ?_⟩
    refine ⟨trivial, ?_⟩
    obtain ⟨g6, h⟩ := of_guard h
    refine ⟨g6, ?_⟩
    obtain ⟨g5, h⟩ := of_guard h
    refine ⟨g5, ?_⟩
    refine ⟨trivial, ?_⟩
    refine ⟨trivial, ?_⟩
    obtain ⟨g4, h⟩ := of_guard h
    refine ⟨g4, ?_⟩
    obtain ⟨g3, h⟩ := of_guard h
    refine ⟨g3, ?_⟩
    refine ⟨trivial, ?_⟩
    refine ⟨trivial, ?_⟩
    obtain rfl := Option.some.inj h
    exact ⟨trivial, trivial, rfl, rfl⟩
/-! halter/halterlaw04.sure -/
def halterlaw04_sure.f : Option Bool :=
  (frames_New.f (2 : Int)).bind fun t1 =>
  match t1 with
  | .inl t2 =>
    some false
  | .inr t3 =>
    (frames_Frames_Alloc.f t3.1 t3.2.1 t3.2.2).bind fun t4 =>
    (frames_Frames_Alloc.f t3.1 t3.2.1 t4.2.2).bind fun t5 =>
    (frames_Frames_Alloc.f t3.1 t3.2.1 t5.2.2).bind fun t6 =>
    (frames_Frames_Ref.f (1 : Int) t3.1 t3.2.1 t6.2.2).bind fun t7 =>
    if t4.2.1 = none then
      if t5.2.1 = none then
        if t7.1 = none then
          (num.f t6.2.1).bind fun t11 =>
          if t11 = (12 : Int) then
            if t4.1 = (0 : Int) then
              if t5.1 = (1 : Int) then
                (frames_Frames_Refs.f (1 : Int) t3.1 t3.2.1 t7.2).bind fun t15 =>
                if t15 = (2 : Int) then
                  (frames_Frames_Free.f t3.1 t3.2.1 t7.2).bind fun t17 =>
                  if t17 = (0 : Int) then
                    (frames_Frames_Taken.f t3.1 t3.2.1 t7.2).bind fun t19 =>
                    some ((((List.length t19) : Nat) : Int) == (2 : Int))
                  else
                    some false
                else
                  some false
              else
                some false
            else
              some false
          else
            some false
        else
          some false
      else
        some false
    else
      some false
def halterlaw04_sure.R (r : Bool) : Tm := .v (.one (.sc (.bool r)))
theorem halterlaw04_sure.fun_ {r : Bool} (h : halterlaw04_sure.f = some r) : Fun cfg 14 [] [] (halterlaw04_sure.R r) [] := by
  unfold halterlaw04_sure.f at h
  refine fun_of_run cfg_ok (f := 14) (fn := Tryd.f14) Tryd.func14 rfl (by kernel_rfl) (rs := [.tmp 0]) rfl (nt := 76) rfl (l := fin) (k := (.alt (.callR true [] [] (Int) (fun t2 => (frames_New.R (.inl t2))) (fun t2 => (frames_New.B (2 : Int) (.inl t2))) (fun t2 => (.one true (.one true (.one true (.one true (.adj [] (.adj [] (.adj [] .nil))))))))) (.callR true [] [] (Nat × Nat × (List Int)) (fun t3 => (frames_New.R (.inr t3))) (fun t3 => (frames_New.B (2 : Int) (.inr t3))) (fun t3 => (.one false (.one false (.one false (.one false (.callR true [] [0, 1] (Int × (Option Int) × (List Int)) (fun t4 => (frames_Frames_Alloc.R t4)) (fun t4 => (frames_Frames_Alloc.B t3.1 t3.2.1 (z2 t3) t4)) (fun t4 => (.callR true [] [0, 1] (Int × (Option Int) × (List Int)) (fun t5 => (frames_Frames_Alloc.R t5)) (fun t5 => (frames_Frames_Alloc.B t3.1 t3.2.1 (z2 t4) t5)) (fun t5 => (.callR true [] [0, 1] (Int × (Option Int) × (List Int)) (fun t6 => (frames_Frames_Alloc.R t6)) (fun t6 => (frames_Frames_Alloc.B t3.1 t3.2.1 (z2 t5) t6)) (fun t6 => (.callR true [] [0, 1] ((Option Int) × (List Int)) (fun t7 => (frames_Frames_Ref.R t7)) (fun t7 => (frames_Frames_Ref.B (1 : Int) t3.1 t3.2.1 (z2 t6) t7)) (fun t7 => (.br (.one true (.one true (.br (.one true (.one true (.br (.one true (.call true [] (Int) (fun t11 => num.R t11) (fun t11 => (.one true (.one true (.br (.one true (.one true (.br (.one true (.one true (.br (.one true (.callR true [] [0, 1] (Int) (fun t15 => (frames_Frames_Refs.R t15)) (fun t15 => (frames_Frames_Refs.B (1 : Int) t3.1 t3.2.1 t7.2 t15)) (fun t15 => (.one true (.one true (.br (.one true (.callR true [] [0, 1] (Int) (fun t17 => (frames_Frames_Free.R t17)) (fun t17 => (frames_Frames_Free.B t3.1 t3.2.1 t7.2 t17)) (fun t17 => (.one true (.one true (.br (.one true (.callR true [] [0, 1] ((List Int)) (fun t19 => (frames_Frames_Taken.R t19)) (fun t19 => (frames_Frames_Taken.B t3.1 t3.2.1 t7.2 t19)) (fun t19 => (.one true (.one true (.one true (.adj [] (.adj [.drop 0] .nil)))))))) (.one false (.one false (.one false (.one false (.adj [] (.adj [.drop 0] .nil)))))))))))) (.one false (.one false (.one false (.one false (.one false (.one false (.one false (.one false (.adj [] (.adj [.drop 0] .nil)))))))))))))))) (.one false (.one false (.one false (.one false (.one false (.one false (.one false (.one false (.one false (.one false (.one false (.one false (.adj [] (.adj [.drop 0] .nil))))))))))))))))) (.one false (.one false (.one false (.one false (.one false (.one false (.one false (.one false (.one false (.one false (.one false (.one false (.one false (.one false (.one false (.adj [] (.adj [.drop 0] .nil)))))))))))))))))))) (.one false (.one false (.one false (.one false (.one false (.one false (.one false (.one false (.one false (.one false (.one false (.one false (.one false (.one false (.one false (.one false (.one false (.one false (.adj [] (.adj [.drop 0] .nil)))))))))))))))))))))))))) (.one false (.one false (.one false (.one false (.one false (.one false (.one false (.one false (.one false (.one false (.one false (.one false (.one false (.one false (.one false (.one false (.one false (.one false (.one false (.one false (.one false (.one false (.adj [] (.adj [.drop 0] .nil))))))))))))))))))))))))))) (.one false (.one false (.one false (.one false (.one false (.one false (.one false (.one false (.one false (.one false (.one false (.one false (.one false (.one false (.one false (.one false (.one false (.one false (.one false (.one false (.one false (.one false (.one false (.one false (.one false (.adj [] (.adj [.drop 0] .nil)))))))))))))))))))))))))))))) (.one false (.one false (.one false (.one false (.one false (.one false (.one false (.one false (.one false (.one false (.one false (.one false (.one false (.one false (.one false (.one false (.one false (.one false (.one false (.one false (.one false (.one false (.one false (.one false (.one false (.one false (.one false (.one false (.adj [] (.adj [.drop 0] .nil))))))))))))))))))))))))))))))))))))))))))))))) (to_goal (q := ((∃ t2 : Int, (Fun cfg 13 [.one (.sc (.int .i64 (2 : Int)))] [] (frames_New.R (.inl t2)) (frames_New.B (2 : Int) (.inl t2)) ∧ True) ∧ (True) ∧ (true = true ∧ (true = true ∧ (true = true ∧ (true = true ∧ (True ∧ (True ∧ ((True) ∧ (True) ∧ (.v (.one (.sc (.bool false))) : Tm) = halterlaw04_sure.R r ∧ ([] : List Box) = [])))))))) ∨ (∃ t3 : Nat × Nat × (List Int), (Fun cfg 13 [.one (.sc (.int .i64 (2 : Int)))] [] (frames_New.R (.inr t3)) (frames_New.B (2 : Int) (.inr t3)) ∧ True) ∧ (True) ∧ (false = false ∧ (false = false ∧ (True) ∧ (false = false ∧ (false = false ∧ (∃ t4 : Int × (Option Int) × (List Int), (Fun cfg 6 [.one (.ptr 0 ⟨0, 0, 0, 0⟩)] [.ex false [.c (.os 1 0 0 1 t3.1 none)] 58, .ex false [.row t3.2.1 (.int .i64) (z2 t3)] 3] (frames_Frames_Alloc.R t4) (frames_Frames_Alloc.B t3.1 t3.2.1 (z2 t3) t4) ∧ True) ∧ (∃ t5 : Int × (Option Int) × (List Int), (Fun cfg 6 [.one (.ptr 0 ⟨0, 0, 0, 0⟩)] [.ex false [.c (.os 1 0 0 1 t3.1 none)] 58, .ex false [.row t3.2.1 (.int .i64) (z2 t4)] 3] (frames_Frames_Alloc.R t5) (frames_Frames_Alloc.B t3.1 t3.2.1 (z2 t4) t5) ∧ True) ∧ (∃ t6 : Int × (Option Int) × (List Int), (Fun cfg 6 [.one (.ptr 0 ⟨0, 0, 0, 0⟩)] [.ex false [.c (.os 1 0 0 1 t3.1 none)] 58, .ex false [.row t3.2.1 (.int .i64) (z2 t5)] 3] (frames_Frames_Alloc.R t6) (frames_Frames_Alloc.B t3.1 t3.2.1 (z2 t5) t6) ∧ True) ∧ (∃ t7 : (Option Int) × (List Int), (Fun cfg 9 [.one (.ptr 0 ⟨0, 0, 0, 0⟩), .one (.sc (.int .i64 (1 : Int)))] [.ex false [.c (.os 1 0 0 1 t3.1 none)] 58, .ex false [.row t3.2.1 (.int .i64) (z2 t6)] 3] (frames_Frames_Ref.R t7) (frames_Frames_Ref.B (1 : Int) t3.1 t3.2.1 (z2 t6) t7) ∧ True) ∧ (True) ∧ (((Option.isNone t4.2.1) = true → ((Option.isNone t4.2.1) = true ∧ (True) ∧ ((Option.isNone t4.2.1) = true ∧ (((Option.isNone t5.2.1) = true → ((Option.isNone t5.2.1) = true ∧ (True) ∧ ((Option.isNone t5.2.1) = true ∧ (((Option.isNone t7.1) = true → ((Option.isNone t7.1) = true ∧ (∃ t11 : Int, (Fun cfg 8 [.one (.err t6.2.1)] [] (num.R t11) [] ∧ True) ∧ ((Option.isNone t7.1) = true ∧ (True) ∧ ((Option.isNone t7.1) = true ∧ (((t11 == (12 : Int)) = true → ((t11 == (12 : Int)) = true ∧ (True) ∧ ((t11 == (12 : Int)) = true ∧ (((t4.1 == (0 : Int)) = true → ((t4.1 == (0 : Int)) = true ∧ (True) ∧ ((t4.1 == (0 : Int)) = true ∧ (((t5.1 == (1 : Int)) = true → ((t5.1 == (1 : Int)) = true ∧ (∃ t15 : Int, (Fun cfg 10 [.one (.ptr 0 ⟨0, 0, 0, 0⟩), .one (.sc (.int .i64 (1 : Int)))] [.ex false [.c (.os 1 0 0 1 t3.1 none)] 58, .ex false [.row t3.2.1 (.int .i64) t7.2] 3] (frames_Frames_Refs.R t15) (frames_Frames_Refs.B (1 : Int) t3.1 t3.2.1 t7.2 t15) ∧ True) ∧ ((t5.1 == (1 : Int)) = true ∧ (True) ∧ ((t5.1 == (1 : Int)) = true ∧ (((t15 == (2 : Int)) = true → ((t15 == (2 : Int)) = true ∧ (∃ t17 : Int, (Fun cfg 11 [.one (.ptr 0 ⟨0, 0, 0, 0⟩)] [.ex false [.c (.os 1 0 0 1 t3.1 none)] 58, .ex false [.row t3.2.1 (.int .i64) t7.2] 3] (frames_Frames_Free.R t17) (frames_Frames_Free.B t3.1 t3.2.1 t7.2 t17) ∧ True) ∧ ((t15 == (2 : Int)) = true ∧ (True) ∧ ((t15 == (2 : Int)) = true ∧ (((t17 == (0 : Int)) = true → ((t17 == (0 : Int)) = true ∧ (∃ t19 : (List Int), (Fun cfg 12 [.one (.ptr 0 ⟨0, 0, 0, 0⟩)] [.ex false [.c (.os 1 0 0 1 t3.1 none)] 58, .ex false [.row t3.2.1 (.int .i64) t7.2] 3] (frames_Frames_Taken.R t19) (frames_Frames_Taken.B t3.1 t3.2.1 t7.2 t19) ∧ True) ∧ ((t17 == (0 : Int)) = true ∧ (True) ∧ ((t17 == (0 : Int)) = true ∧ (True) ∧ ((t17 == (0 : Int)) = true ∧ (True ∧ ((True) ∧ ((True) ∧ True) ∧ (.v (.one (.sc (.bool ((((List.length t19) : Nat) : Int) == (2 : Int))))) : Tm) = halterlaw04_sure.R r ∧ ([] : List Box) = [])))))))) ∧ ((t17 == (0 : Int)) = false → ((t17 == (0 : Int)) = false ∧ ((t17 == (0 : Int)) = false ∧ ((t17 == (0 : Int)) = false ∧ ((t17 == (0 : Int)) = false ∧ (True ∧ ((True) ∧ ((True) ∧ True) ∧ (.v (.one (.sc (.bool false))) : Tm) = halterlaw04_sure.R r ∧ ([] : List Box) = []))))))))))))) ∧ ((t15 == (2 : Int)) = false → ((t15 == (2 : Int)) = false ∧ ((t15 == (2 : Int)) = false ∧ ((t15 == (2 : Int)) = false ∧ (false = false ∧ (false = false ∧ (false = false ∧ (false = false ∧ (false = false ∧ (True ∧ ((True) ∧ ((True) ∧ True) ∧ (.v (.one (.sc (.bool false))) : Tm) = halterlaw04_sure.R r ∧ ([] : List Box) = []))))))))))))))))) ∧ ((t5.1 == (1 : Int)) = false → ((t5.1 == (1 : Int)) = false ∧ ((t5.1 == (1 : Int)) = false ∧ ((t5.1 == (1 : Int)) = false ∧ (false = false ∧ (false = false ∧ (false = false ∧ (false = false ∧ (false = false ∧ (false = false ∧ (false = false ∧ (false = false ∧ (false = false ∧ (True ∧ ((True) ∧ ((True) ∧ True) ∧ (.v (.one (.sc (.bool false))) : Tm) = halterlaw04_sure.R r ∧ ([] : List Box) = []))))))))))))))))))) ∧ ((t4.1 == (0 : Int)) = false → ((t4.1 == (0 : Int)) = false ∧ ((t4.1 == (0 : Int)) = false ∧ (false = false ∧ (false = false ∧ (false = false ∧ (false = false ∧ (false = false ∧ (false = false ∧ (false = false ∧ (false = false ∧ (false = false ∧ (false = false ∧ (false = false ∧ (false = false ∧ (false = false ∧ (True ∧ ((True) ∧ ((True) ∧ True) ∧ (.v (.one (.sc (.bool false))) : Tm) = halterlaw04_sure.R r ∧ ([] : List Box) = [])))))))))))))))))))))) ∧ ((t11 == (12 : Int)) = false → ((t11 == (12 : Int)) = false ∧ ((t11 == (12 : Int)) = false ∧ (false = false ∧ (false = false ∧ (false = false ∧ (false = false ∧ (false = false ∧ (false = false ∧ (false = false ∧ (false = false ∧ (false = false ∧ (false = false ∧ (false = false ∧ (false = false ∧ (false = false ∧ (false = false ∧ (false = false ∧ (false = false ∧ (True ∧ ((True) ∧ ((True) ∧ True) ∧ (.v (.one (.sc (.bool false))) : Tm) = halterlaw04_sure.R r ∧ ([] : List Box) = []))))))))))))))))))))))))))) ∧ ((Option.isNone t7.1) = false → ((Option.isNone t7.1) = false ∧ ((Option.isNone t7.1) = false ∧ ((Option.isNone t7.1) = false ∧ (false = false ∧ (false = false ∧ (false = false ∧ (false = false ∧ (false = false ∧ (false = false ∧ (false = false ∧ (false = false ∧ (false = false ∧ (false = false ∧ (false = false ∧ (false = false ∧ (false = false ∧ (false = false ∧ (false = false ∧ (false = false ∧ (false = false ∧ (false = false ∧ (false = false ∧ (True ∧ ((True) ∧ ((True) ∧ True) ∧ (.v (.one (.sc (.bool false))) : Tm) = halterlaw04_sure.R r ∧ ([] : List Box) = []))))))))))))))))))))))))))))) ∧ ((Option.isNone t5.2.1) = false → ((Option.isNone t5.2.1) = false ∧ ((Option.isNone t5.2.1) = false ∧ (false = false ∧ (false = false ∧ (false = false ∧ (false = false ∧ (false = false ∧ (false = false ∧ (false = false ∧ (false = false ∧ (false = false ∧ (false = false ∧ (false = false ∧ (false = false ∧ (false = false ∧ (false = false ∧ (false = false ∧ (false = false ∧ (false = false ∧ (false = false ∧ (false = false ∧ (false = false ∧ (false = false ∧ (false = false ∧ (false = false ∧ (True ∧ ((True) ∧ ((True) ∧ True) ∧ (.v (.one (.sc (.bool false))) : Tm) = halterlaw04_sure.R r ∧ ([] : List Box) = [])))))))))))))))))))))))))))))))) ∧ ((Option.isNone t4.2.1) = false → ((Option.isNone t4.2.1) = false ∧ ((Option.isNone t4.2.1) = false ∧ (false = false ∧ (false = false ∧ (false = false ∧ (false = false ∧ (false = false ∧ (false = false ∧ (false = false ∧ (false = false ∧ (false = false ∧ (false = false ∧ (false = false ∧ (false = false ∧ (false = false ∧ (false = false ∧ (false = false ∧ (false = false ∧ (false = false ∧ (false = false ∧ (false = false ∧ (false = false ∧ (false = false ∧ (false = false ∧ (false = false ∧ (false = false ∧ (false = false ∧ (false = false ∧ (True ∧ ((True) ∧ ((True) ∧ True) ∧ (.v (.one (.sc (.bool false))) : Tm) = halterlaw04_sure.R r ∧ ([] : List Box) = []))))))))))))))))))))))))))))))))))))))))))) (by kernel_rfl) ?_)
  obtain ⟨t1, ht1, h⟩ := of_bind h
  rcases t1 with t2 | t3
  · dsimp only at h
    left
    refine ⟨t2, ⟨frames_New.fun_ ht1, trivial⟩, ?_⟩
    refine ⟨trivial, ?_⟩
    refine ⟨rfl, ?_⟩
    refine ⟨rfl, ?_⟩
    refine ⟨rfl, ?_⟩
    refine ⟨rfl, ?_⟩
    refine ⟨trivial, ?_⟩
    refine ⟨trivial, ?_⟩
    obtain rfl := Option.some.inj h
    exact ⟨trivial, trivial, rfl, rfl⟩
  · dsimp only at h
    right
    refine ⟨t3, ⟨frames_New.fun_ ht1, trivial⟩, ?_⟩
    refine ⟨trivial, ?_⟩
    refine ⟨rfl, ?_⟩
    refine ⟨rfl, ?_⟩
    refine ⟨trivial, ?_⟩
    refine ⟨rfl, ?_⟩
    refine ⟨rfl, ?_⟩
    obtain ⟨t4, ht4, h⟩ := of_bind h
    refine ⟨t4, ⟨frames_Frames_Alloc.fun_ ht4, trivial⟩, ?_⟩
    obtain ⟨t5, ht5, h⟩ := of_bind h
    refine ⟨t5, ⟨frames_Frames_Alloc.fun_ ht5, trivial⟩, ?_⟩
    obtain ⟨t6, ht6, h⟩ := of_bind h
    refine ⟨t6, ⟨frames_Frames_Alloc.fun_ ht6, trivial⟩, ?_⟩
    obtain ⟨t7, ht7, h⟩ := of_bind h
    refine ⟨t7, ⟨frames_Frames_Ref.fun_ ht7, trivial⟩, ?_⟩
    refine ⟨trivial, ?_⟩
    refine ⟨fun b8 => ?_, fun b8 => ?_⟩
    · rw [if_pos (none_t b8)] at h
      refine ⟨b8, ?_⟩
      refine ⟨trivial, ?_⟩
      refine ⟨b8, ?_⟩
      refine ⟨fun b9 => ?_, fun b9 => ?_⟩
      · rw [if_pos (none_t b9)] at h
        refine ⟨b9, ?_⟩
        refine ⟨trivial, ?_⟩
        refine ⟨b9, ?_⟩
        refine ⟨fun b10 => ?_, fun b10 => ?_⟩
        · rw [if_pos (none_t b10)] at h
          refine ⟨b10, ?_⟩
          obtain ⟨t11, ht11, h⟩ := of_bind h
          refine ⟨t11, ⟨num.fun_ ht11, trivial⟩, ?_⟩
          refine ⟨b10, ?_⟩
          refine ⟨trivial, ?_⟩
          refine ⟨b10, ?_⟩
          refine ⟨fun b12 => ?_, fun b12 => ?_⟩
          · rw [if_pos (beq_t b12)] at h
            refine ⟨b12, ?_⟩
            refine ⟨trivial, ?_⟩
            refine ⟨b12, ?_⟩
            refine ⟨fun b13 => ?_, fun b13 => ?_⟩
            · rw [if_pos (beq_t b13)] at h
              refine ⟨b13, ?_⟩
              refine ⟨trivial, ?_⟩
              refine ⟨b13, ?_⟩
              refine ⟨fun b14 => ?_, fun b14 => ?_⟩
              · rw [if_pos (beq_t b14)] at h
                refine ⟨b14, ?_⟩
                obtain ⟨t15, ht15, h⟩ := of_bind h
                refine ⟨t15, ⟨frames_Frames_Refs.fun_ ht15, trivial⟩, ?_⟩
                refine ⟨b14, ?_⟩
                refine ⟨trivial, ?_⟩
                refine ⟨b14, ?_⟩
                refine ⟨fun b16 => ?_, fun b16 => ?_⟩
                · rw [if_pos (beq_t b16)] at h
                  refine ⟨b16, ?_⟩
                  obtain ⟨t17, ht17, h⟩ := of_bind h
                  refine ⟨t17, ⟨frames_Frames_Free.fun_ ht17, trivial⟩, ?_⟩
                  refine ⟨b16, ?_⟩
                  refine ⟨trivial, ?_⟩
                  refine ⟨b16, ?_⟩
                  refine ⟨fun b18 => ?_, fun b18 => ?_⟩
                  · rw [if_pos (beq_t b18)] at h
                    refine ⟨b18, ?_⟩
                    obtain ⟨t19, ht19, h⟩ := of_bind h
                    refine ⟨t19, ⟨frames_Frames_Taken.fun_ ht19, trivial⟩, ?_⟩
                    refine ⟨b18, ?_⟩
                    refine ⟨trivial, ?_⟩
                    refine ⟨b18, ?_⟩
                    refine ⟨trivial, ?_⟩
                    refine ⟨b18, ?_⟩
                    refine ⟨trivial, ?_⟩
                    obtain rfl := Option.some.inj h
                    exact ⟨trivial, ⟨trivial, trivial⟩, rfl, rfl⟩
                  · rw [if_neg (beq_f b18)] at h
                    refine ⟨b18, ?_⟩
                    refine ⟨b18, ?_⟩
                    refine ⟨b18, ?_⟩
                    refine ⟨b18, ?_⟩
                    refine ⟨trivial, ?_⟩
                    obtain rfl := Option.some.inj h
                    exact ⟨trivial, ⟨trivial, trivial⟩, rfl, rfl⟩
                · rw [if_neg (beq_f b16)] at h
                  refine ⟨b16, ?_⟩
                  refine ⟨b16, ?_⟩
                  refine ⟨b16, ?_⟩
                  refine ⟨rfl, ?_⟩
                  refine ⟨rfl, ?_⟩
                  refine ⟨rfl, ?_⟩
                  refine ⟨rfl, ?_⟩
                  refine ⟨rfl, ?_⟩
                  refine ⟨trivial, ?_⟩
                  obtain rfl := Option.some.inj h
                  exact ⟨trivial, ⟨trivial, trivial⟩, rfl, rfl⟩
              · rw [if_neg (beq_f b14)] at h
                refine ⟨b14, ?_⟩
                refine ⟨b14, ?_⟩
                refine ⟨b14, ?_⟩
                refine ⟨rfl, ?_⟩
                refine ⟨rfl, ?_⟩
                refine ⟨rfl, ?_⟩
                refine ⟨rfl, ?_⟩
                refine ⟨rfl, ?_⟩
                refine ⟨rfl, ?_⟩
                refine ⟨rfl, ?_⟩
                refine ⟨rfl, ?_⟩
                refine ⟨rfl, ?_⟩
                refine ⟨trivial, ?_⟩
                obtain rfl := Option.some.inj h
                exact ⟨trivial, ⟨trivial, trivial⟩, rfl, rfl⟩
            · rw [if_neg (beq_f b13)] at h
              refine ⟨b13, ?_⟩
              refine ⟨b13, ?_⟩
              refine ⟨rfl, ?_⟩
              refine ⟨rfl, ?_⟩
              refine ⟨rfl, ?_⟩
              refine ⟨rfl, ?_⟩
              refine ⟨rfl, ?_⟩
              refine ⟨rfl, ?_⟩
              refine ⟨rfl, ?_⟩
              refine ⟨rfl, ?_⟩
              refine ⟨rfl, ?_⟩
              refine ⟨rfl, ?_⟩
              refine ⟨rfl, ?_⟩
              refine ⟨rfl, ?_⟩
              refine ⟨rfl, ?_⟩
              refine ⟨trivial, ?_⟩
              obtain rfl := Option.some.inj h
              exact ⟨trivial, ⟨trivial, trivial⟩, rfl, rfl⟩
          · rw [if_neg (beq_f b12)] at h
            refine ⟨b12, ?_⟩
            refine ⟨b12, ?_⟩
            refine ⟨rfl, ?_⟩
            refine ⟨rfl, ?_⟩
            refine ⟨rfl, ?_⟩
            refine ⟨rfl, ?_⟩
            refine ⟨rfl, ?_⟩
            refine ⟨rfl, ?_⟩
            refine ⟨rfl, ?_⟩
            refine ⟨rfl, ?_⟩
            refine ⟨rfl, ?_⟩
            refine ⟨rfl, ?_⟩
            refine ⟨rfl, ?_⟩
            refine ⟨rfl, ?_⟩
            refine ⟨rfl, ?_⟩
            refine ⟨rfl, ?_⟩
            refine ⟨rfl, ?_⟩
            refine ⟨rfl, ?_⟩
            refine ⟨trivial, ?_⟩
            obtain rfl := Option.some.inj h
            exact ⟨trivial, ⟨trivial, trivial⟩, rfl, rfl⟩
        · rw [if_neg (none_f b10)] at h
          refine ⟨b10, ?_⟩
          refine ⟨b10, ?_⟩
          refine ⟨b10, ?_⟩
          refine ⟨rfl, ?_⟩
          refine ⟨rfl, ?_⟩
          refine ⟨rfl, ?_⟩
          refine ⟨rfl, ?_⟩
          refine ⟨rfl, ?_⟩
          refine ⟨rfl, ?_⟩
          refine ⟨rfl, ?_⟩
          refine ⟨rfl, ?_⟩
          refine ⟨rfl, ?_⟩
          refine ⟨rfl, ?_⟩
          refine ⟨rfl, ?_⟩
          refine ⟨rfl, ?_⟩
          refine ⟨rfl, ?_⟩
          refine ⟨rfl, ?_⟩
          refine ⟨rfl, ?_⟩
          refine ⟨rfl, ?_⟩
          refine ⟨rfl, ?_⟩
          refine ⟨rfl, ?_⟩
          refine ⟨rfl, ?_⟩
          refine ⟨trivial, ?_⟩
          obtain rfl := Option.some.inj h
          exact ⟨trivial, ⟨trivial, trivial⟩, rfl, rfl⟩
      · rw [if_neg (none_f b9)] at h
        refine ⟨b9, ?_⟩
        refine ⟨b9, ?_⟩
        refine ⟨rfl, ?_⟩
        refine ⟨rfl, ?_⟩
        refine ⟨rfl, ?_⟩
        refine ⟨rfl, ?_⟩
        refine ⟨rfl, ?_⟩
        refine ⟨rfl, ?_⟩
        refine ⟨rfl, ?_⟩
        refine ⟨rfl, ?_⟩
        refine ⟨rfl, ?_⟩
        refine ⟨rfl, ?_⟩
        refine ⟨rfl, ?_⟩
        refine ⟨rfl, ?_⟩
        refine ⟨rfl, ?_⟩
        refine ⟨rfl, ?_⟩
        refine ⟨rfl, ?_⟩
        refine ⟨rfl, ?_⟩
        refine ⟨rfl, ?_⟩
        refine ⟨rfl, ?_⟩
        refine ⟨rfl, ?_⟩
        refine ⟨rfl, ?_⟩
        refine ⟨rfl, ?_⟩
        refine ⟨rfl, ?_⟩
        refine ⟨rfl, ?_⟩
        refine ⟨trivial, ?_⟩
        obtain rfl := Option.some.inj h
        exact ⟨trivial, ⟨trivial, trivial⟩, rfl, rfl⟩
    · rw [if_neg (none_f b8)] at h
      refine ⟨b8, ?_⟩
      refine ⟨b8, ?_⟩
      refine ⟨rfl, ?_⟩
      refine ⟨rfl, ?_⟩
      refine ⟨rfl, ?_⟩
      refine ⟨rfl, ?_⟩
      refine ⟨rfl, ?_⟩
      refine ⟨rfl, ?_⟩
      refine ⟨rfl, ?_⟩
      refine ⟨rfl, ?_⟩
      refine ⟨rfl, ?_⟩
      refine ⟨rfl, ?_⟩
      refine ⟨rfl, ?_⟩
      refine ⟨rfl, ?_⟩
      refine ⟨rfl, ?_⟩
      refine ⟨rfl, ?_⟩
      refine ⟨rfl, ?_⟩
      refine ⟨rfl, ?_⟩
      refine ⟨rfl, ?_⟩
      refine ⟨rfl, ?_⟩
      refine ⟨rfl, ?_⟩
      refine ⟨rfl, ?_⟩
      refine ⟨rfl, ?_⟩
      refine ⟨rfl, ?_⟩
      refine ⟨rfl, ?_⟩
      refine ⟨rfl, ?_⟩
      refine ⟨rfl, ?_⟩
      refine ⟨rfl, ?_⟩
      refine ⟨trivial, ?_⟩
      obtain rfl := Option.some.inj h
      exact ⟨trivial, ⟨trivial, trivial⟩, rfl, rfl⟩
/-! halter/halterlaw04.FramesCount -/
def halterlaw04_FramesCount.c0 (t346 : Int) (t347 : (List Int)) (a0 : Int) : Bool := ((IntKind.wrap .i64 (t346 + (((List.length t347) : Nat) : Int))) != (IntKind.wrap .i64 ((1 : Int) + (IntKind.wrap .i64 ((Int.tmod (IntKind.wrap .u64 (a0)) (12 : Int)))))))
def halterlaw04_FramesCount.l2 (t3 : Nat × Nat × (List Int)) (x94 : Int) (x95 : Int) (t254 : Int × (Option Int) × (List Int)) (a0 : Int) (a1 : (List (Int × Int))) : Nat → Int → Option ((Unit) ⊕ (Unit))
  | 0, _ => none
  | n + 1, x261 =>
    if x261 < t254.1 then
      if t254.2.1 = none then
        (frames_Frames_Refs.f x261 t3.1 t3.2.1 t254.2.2).bind fun t269 =>
        if t269 = (0 : Int) then
          some (.inr ())
        else
          halterlaw04_FramesCount.l2 t3 x94 x95 t254 a0 a1 n (IntKind.wrap .i64 (x261 + (1 : Int)))
      else
        some (.inl ())
    else
      some (.inl ())
def halterlaw04_FramesCount.l2_S (t3 : Nat × Nat × (List Int)) (x94 : Int) (x95 : Int) (t254 : Int × (Option Int) × (List Int)) (a0 : Int) (a1 : (List (Int × Int))) (x261 : Int) : St := ⟨[.any, .v (.one (.fs (.pair (.int .i64) (.int .i64)) a1 false)), .any, .any, .any, .v (.one (.sc (.int .i64 (IntKind.wrap .i64 ((1 : Int) + (IntKind.wrap .i64 ((Int.tmod (IntKind.wrap .u64 (a0)) (12 : Int))))))))), .v (.one (.ptr 0 ⟨0, 0, 0, 0⟩)), .any, .v (.one (.sc (.int .i64 x94))), .v (.one (.sc (.int .i64 x95))), .any, .any, .v (.one (.sc (.int .i64 t254.1))), .v (.one (.err t254.2.1)), .v (.one (.sc (.int .i64 x261))), .any, .any, .any, .any, .any, .any, .any, .any, .any, .any, .any, .any, .any, .any, .any, .any, .any, .any, .any, .any, .any, .any, .any, .any, .any, .any, .any, .any, .any, .any, .any, .any, .any, .any, .any, .any, .any, .any, .any, .any, .any, .any, .any, .any, .any, .any, .any, .any, .any, .any, .any, .any, .any, .any, .any, .any, .any, .any, .any, .any, .any, .any, .any, .any, .any, .any, .any, .any, .any, .any, .any, .any, .any, .any, .any, .any, .any, .any, .any, .any, .any, .any, .any, .any, .any, .any, .any, .any, .any, .any, .any, .any, .any, .any, .any, .any, .any, .any, .any, .any, .any, .any, .any, .any, .any, .any, .any, .any, .any, .any, .any, .any, .any, .any, .any, .any, .any, .any, .any, .any, .any, .any, .any, .any, .any, .any, .any, .any, .any, .any, .any, .any, .any, .any, .any, .any, .any, .any, .any, .any, .any, .any, .any, .any, .any, .any, .any, .any, .any, .any, .any, .any, .any, .any], [.ex false [.c (.os 1 0 0 1 t3.1 none)] 58, .ex false [.row t3.2.1 (.int .i64) t254.2.2] 3], 0⟩
def halterlaw04_FramesCount.l2_Q (t3 : Nat × Nat × (List Int)) (x94 : Int) (x95 : Int) (t254 : Int × (Option Int) × (List Int)) (a0 : Int) (a1 : (List (Int × Int))) : (Unit) ⊕ (Unit) → Exit → St → Prop
  | .inl t => fun e s => e = (.exit 3) ∧ s = ⟨[.any, .v (.one (.fs (.pair (.int .i64) (.int .i64)) a1 false)), .any, .any, .any, .v (.one (.sc (.int .i64 (IntKind.wrap .i64 ((1 : Int) + (IntKind.wrap .i64 ((Int.tmod (IntKind.wrap .u64 (a0)) (12 : Int))))))))), .v (.one (.ptr 0 ⟨0, 0, 0, 0⟩)), .any, .v (.one (.sc (.int .i64 x94))), .v (.one (.sc (.int .i64 x95))), .any, .any, .any, .v (.one (.err t254.2.1)), .any, .any, .any, .any, .any, .any, .any, .any, .any, .any, .any, .any, .any, .any, .any, .any, .any, .any, .any, .any, .any, .any, .any, .any, .any, .any, .any, .any, .any, .any, .any, .any, .any, .any, .any, .any, .any, .any, .any, .any, .any, .any, .any, .any, .any, .any, .any, .any, .any, .any, .any, .any, .any, .any, .any, .any, .any, .any, .any, .any, .any, .any, .any, .any, .any, .any, .any, .any, .any, .any, .any, .any, .any, .any, .any, .any, .any, .any, .any, .any, .any, .any, .any, .any, .any, .any, .any, .any, .any, .any, .any, .any, .any, .any, .any, .any, .any, .any, .any, .any, .any, .any, .any, .any, .any, .any, .any, .any, .any, .any, .any, .any, .any, .any, .any, .any, .any, .any, .any, .any, .any, .any, .any, .any, .any, .any, .any, .any, .any, .any, .any, .any, .any, .any, .any, .any, .any, .any, .any, .any, .any, .any, .any, .any, .any, .any, .any, .any, .any, .any, .any, .any, .any, .any, .any], [.ex false [.c (.os 1 0 0 1 t3.1 none)] 58, .ex false [.row t3.2.1 (.int .i64) t254.2.2] 3], 0⟩
  | .inr t => fun e s => e = .ret ∧ s = ⟨[.any, .any, .any, .any, .v (.one (.sc (.bool false))), .any, .any, .any, .any, .any, .any, .any, .any, .any, .any, .any, .any, .any, .any, .any, .any, .any, .any, .any, .any, .any, .any, .any, .any, .any, .any, .any, .any, .any, .any, .any, .any, .any, .any, .any, .any, .any, .any, .any, .any, .any, .any, .any, .any, .any, .any, .any, .any, .any, .any, .any, .any, .any, .any, .any, .any, .any, .any, .any, .any, .any, .any, .any, .any, .any, .any, .any, .any, .any, .any, .any, .any, .any, .any, .any, .any, .any, .any, .any, .any, .any, .any, .any, .any, .any, .any, .any, .any, .any, .any, .any, .any, .any, .any, .any, .any, .any, .any, .any, .any, .any, .any, .any, .any, .any, .any, .any, .any, .any, .any, .any, .any, .any, .any, .any, .any, .any, .any, .any, .any, .any, .any, .any, .any, .any, .any, .any, .any, .any, .any, .any, .any, .any, .any, .any, .any, .any, .any, .any, .any, .any, .any, .any, .any, .any, .any, .any, .any, .any, .any, .any, .any, .any, .any, .any, .any, .any, .any, .any, .any, .any, .any, .any, .any], [.ex false [.c (.os 1 0 0 1 t3.1 none)] 58, .ex false [.row t3.2.1 (.int .i64) t254.2.2] 3], 0⟩
theorem halterlaw04_FramesCount.l2_ok (t3 : Nat × Nat × (List Int)) (x94 : Int) (x95 : Int) (t254 : Int × (Option Int) × (List Int)) (a0 : Int) (a1 : (List (Int × Int))) : ∀ (n : Nat) (x261 : Int) (r : (Unit) ⊕ (Unit)), halterlaw04_FramesCount.l2 t3 x94 x95 t254 a0 a1 n x261 = some r → TripN cfg (cpath (Tryd.f4.body.getD .skip) [1, 1, 1, 1, 1, 0, 1, 0, 0, 1, 0, 0, 1, 1, 0, 1, 0, 1, 0, 1, 1, 0, 1, 0, 0]) n (halterlaw04_FramesCount.l2_S t3 x94 x95 t254 a0 a1 x261) (halterlaw04_FramesCount.l2_Q t3 x94 x95 t254 a0 a1 r) := by
  intro n
  induction n with
  | zero => intro x261 r h; cases h
  | succ n ih =>
    intro x261 r h
    rw [halterlaw04_FramesCount.l2] at h
    refine TripN.of_run cfg_ok (k := (.br (.one true (.one true (.br (.callR true [] [0, 1] (Int) (fun t269 => (frames_Frames_Refs.R t269)) (fun t269 => (frames_Frames_Refs.B x261 t3.1 t3.2.1 (z2 t254) t269)) (fun t269 => (.br (.adj [] (.adj [.keep [4], .drop 2] .nil)) (.adj [] (.adj [] (.adj [.keep [1, 5, 6, 8, 9, 12, 13, 14], .drop 2] .nil)))))) (.adj [.keep [1, 5, 6, 8, 9, 13], .drop 2] .nil)))) (.one false (.one false (.one false (.adj [.keep [1, 5, 6, 8, 9, 13], .drop 2] .nil)))))) (to_goal (q := (True) ∧ (((decide (x261 < t254.1)) = true → ((decide (x261 < t254.1)) = true ∧ (True) ∧ ((decide (x261 < t254.1)) = true ∧ (((Option.isNone t254.2.1) = true → (∃ t269 : Int, (Fun cfg 10 [.one (.ptr 0 ⟨0, 0, 0, 0⟩), .one (.sc (.int .i64 x261))] [.ex false [.c (.os 1 0 0 1 t3.1 none)] 58, .ex false [.row t3.2.1 (.int .i64) (z2 t254)] 3] (frames_Frames_Refs.R t269) (frames_Frames_Refs.B x261 t3.1 t3.2.1 (z2 t254) t269) ∧ True) ∧ (True) ∧ (((t269 == (0 : Int)) = true → (True ∧ (((True) ∧ (True) ∧ True) ∧ halterlaw04_FramesCount.l2_Q t3 x94 x95 t254 a0 a1 r .ret ⟨[.any, .any, .any, .any, .v (.one (.sc (.bool false))), .any, .any, .any, .any, .any, .any, .any, .any, .any, .any, .any, .any, .any, .any, .any, .any, .any, .any, .any, .any, .any, .any, .any, .any, .any, .any, .any, .any, .any, .any, .any, .any, .any, .any, .any, .any, .any, .any, .any, .any, .any, .any, .any, .any, .any, .any, .any, .any, .any, .any, .any, .any, .any, .any, .any, .any, .any, .any, .any, .any, .any, .any, .any, .any, .any, .any, .any, .any, .any, .any, .any, .any, .any, .any, .any, .any, .any, .any, .any, .any, .any, .any, .any, .any, .any, .any, .any, .any, .any, .any, .any, .any, .any, .any, .any, .any, .any, .any, .any, .any, .any, .any, .any, .any, .any, .any, .any, .any, .any, .any, .any, .any, .any, .any, .any, .any, .any, .any, .any, .any, .any, .any, .any, .any, .any, .any, .any, .any, .any, .any, .any, .any, .any, .any, .any, .any, .any, .any, .any, .any, .any, .any, .any, .any, .any, .any, .any, .any, .any, .any, .any, .any, .any, .any, .any, .any, .any, .any, .any, .any, .any, .any, .any, .any], [.ex false [.c (.os 1 0 0 1 t3.1 none)] 58, .ex false [.row t3.2.1 (.int .i64) (z2 t254)] 3], 0⟩))) ∧ ((t269 == (0 : Int)) = false → (True ∧ (True ∧ (True) ∧ (((True) ∧ (True) ∧ True) ∧ TripN cfg (cpath (Tryd.f4.body.getD .skip) [1, 1, 1, 1, 1, 0, 1, 0, 0, 1, 0, 0, 1, 1, 0, 1, 0, 1, 0, 1, 1, 0, 1, 0, 0]) n (halterlaw04_FramesCount.l2_S t3 x94 x95 t254 a0 a1 (IntKind.wrap .i64 (x261 + (1 : Int)))) (halterlaw04_FramesCount.l2_Q t3 x94 x95 t254 a0 a1 r)))))))) ∧ ((Option.isNone t254.2.1) = false → (((True) ∧ (True) ∧ True) ∧ halterlaw04_FramesCount.l2_Q t3 x94 x95 t254 a0 a1 r (.exit 3) ⟨[.any, .v (.one (.fs (.pair (.int .i64) (.int .i64)) a1 false)), .any, .any, .any, .v (.one (.sc (.int .i64 (IntKind.wrap .i64 ((1 : Int) + (IntKind.wrap .i64 ((Int.tmod (IntKind.wrap .u64 (a0)) (12 : Int))))))))), .v (.one (.ptr 0 ⟨0, 0, 0, 0⟩)), .any, .v (.one (.sc (.int .i64 x94))), .v (.one (.sc (.int .i64 x95))), .any, .any, .any, .v (.one (.err t254.2.1)), .any, .any, .any, .any, .any, .any, .any, .any, .any, .any, .any, .any, .any, .any, .any, .any, .any, .any, .any, .any, .any, .any, .any, .any, .any, .any, .any, .any, .any, .any, .any, .any, .any, .any, .any, .any, .any, .any, .any, .any, .any, .any, .any, .any, .any, .any, .any, .any, .any, .any, .any, .any, .any, .any, .any, .any, .any, .any, .any, .any, .any, .any, .any, .any, .any, .any, .any, .any, .any, .any, .any, .any, .any, .any, .any, .any, .any, .any, .any, .any, .any, .any, .any, .any, .any, .any, .any, .any, .any, .any, .any, .any, .any, .any, .any, .any, .any, .any, .any, .any, .any, .any, .any, .any, .any, .any, .any, .any, .any, .any, .any, .any, .any, .any, .any, .any, .any, .any, .any, .any, .any, .any, .any, .any, .any, .any, .any, .any, .any, .any, .any, .any, .any, .any, .any, .any, .any, .any, .any, .any, .any, .any, .any, .any, .any, .any, .any, .any, .any, .any, .any, .any, .any, .any, .any], [.ex false [.c (.os 1 0 0 1 t3.1 none)] 58, .ex false [.row t3.2.1 (.int .i64) (z2 t254)] 3], 0⟩)))))) ∧ ((decide (x261 < t254.1)) = false → ((decide (x261 < t254.1)) = false ∧ ((decide (x261 < t254.1)) = false ∧ (false = false ∧ (((True) ∧ (True) ∧ True) ∧ halterlaw04_FramesCount.l2_Q t3 x94 x95 t254 a0 a1 r (.exit 3) ⟨[.any, .v (.one (.fs (.pair (.int .i64) (.int .i64)) a1 false)), .any, .any, .any, .v (.one (.sc (.int .i64 (IntKind.wrap .i64 ((1 : Int) + (IntKind.wrap .i64 ((Int.tmod (IntKind.wrap .u64 (a0)) (12 : Int))))))))), .v (.one (.ptr 0 ⟨0, 0, 0, 0⟩)), .any, .v (.one (.sc (.int .i64 x94))), .v (.one (.sc (.int .i64 x95))), .any, .any, .any, .v (.one (.err t254.2.1)), .any, .any, .any, .any, .any, .any, .any, .any, .any, .any, .any, .any, .any, .any, .any, .any, .any, .any, .any, .any, .any, .any, .any, .any, .any, .any, .any, .any, .any, .any, .any, .any, .any, .any, .any, .any, .any, .any, .any, .any, .any, .any, .any, .any, .any, .any, .any, .any, .any, .any, .any, .any, .any, .any, .any, .any, .any, .any, .any, .any, .any, .any, .any, .any, .any, .any, .any, .any, .any, .any, .any, .any, .any, .any, .any, .any, .any, .any, .any, .any, .any, .any, .any, .any, .any, .any, .any, .any, .any, .any, .any, .any, .any, .any, .any, .any, .any, .any, .any, .any, .any, .any, .any, .any, .any, .any, .any, .any, .any, .any, .any, .any, .any, .any, .any, .any, .any, .any, .any, .any, .any, .any, .any, .any, .any, .any, .any, .any, .any, .any, .any, .any, .any, .any, .any, .any, .any, .any, .any, .any, .any, .any, .any, .any, .any, .any, .any, .any, .any, .any, .any, .any, .any, .any, .any], [.ex false [.c (.os 1 0 0 1 t3.1 none)] 58, .ex false [.row t3.2.1 (.int .i64) (z2 t254)] 3], 0⟩))))))) (by kernel_rfl) ?_)
    refine ⟨trivial, ?_⟩
    refine ⟨fun b267 => ?_, fun b267 => ?_⟩
    · rw [if_pos (of_decide_eq_true b267)] at h
      refine ⟨b267, ?_⟩
      refine ⟨trivial, ?_⟩
      refine ⟨b267, ?_⟩
      refine ⟨fun b268 => ?_, fun b268 => ?_⟩
      · rw [if_pos (none_t b268)] at h
        obtain ⟨t269, ht269, h⟩ := of_bind h
        refine ⟨t269, ⟨frames_Frames_Refs.fun_ ht269, trivial⟩, ?_⟩
        refine ⟨trivial, ?_⟩
        refine ⟨fun b270 => ?_, fun b270 => ?_⟩
        · rw [if_pos (beq_t b270)] at h
          refine ⟨trivial, ?_⟩
          obtain rfl := Option.some.inj h
          exact ⟨⟨trivial, trivial, trivial⟩, rfl, rfl⟩
        · rw [if_neg (beq_f b270)] at h
          refine ⟨trivial, ?_⟩
          refine ⟨trivial, ?_⟩
          refine ⟨trivial, ?_⟩
          exact ⟨⟨trivial, trivial, trivial⟩, ih (IntKind.wrap .i64 (x261 + (1 : Int))) r h⟩
      · rw [if_neg (none_f b268)] at h
        obtain rfl := Option.some.inj h
        exact ⟨⟨trivial, trivial, trivial⟩, rfl, rfl⟩
    · rw [if_neg (of_decide_eq_false b267)] at h
      refine ⟨b267, ?_⟩
      refine ⟨b267, ?_⟩
      refine ⟨rfl, ?_⟩
      obtain rfl := Option.some.inj h
      exact ⟨⟨trivial, trivial, trivial⟩, rfl, rfl⟩
def halterlaw04_FramesCount.l3 (t3 : Nat × Nat × (List Int)) (x94 : Int) (x95 : Int) (t254 : Int × (Option Int) × (List Int)) (a0 : Int) (a1 : (List (Int × Int))) : Nat → Int → Option ((Unit) ⊕ (Unit))
  | 0, _ => none
  | n + 1, x274 =>
    if x274 < t254.1 then
      if t254.2.1 = none then
        (frames_Frames_Refs.f x274 t3.1 t3.2.1 t254.2.2).bind fun t282 =>
        if t282 = (0 : Int) then
          some (.inr ())
        else
          halterlaw04_FramesCount.l3 t3 x94 x95 t254 a0 a1 n (IntKind.wrap .i64 (x274 + (1 : Int)))
      else
        some (.inl ())
    else
      some (.inl ())
def halterlaw04_FramesCount.l3_S (t3 : Nat × Nat × (List Int)) (x94 : Int) (x95 : Int) (t254 : Int × (Option Int) × (List Int)) (a0 : Int) (a1 : (List (Int × Int))) (x274 : Int) : St := ⟨[.any, .v (.one (.fs (.pair (.int .i64) (.int .i64)) a1 false)), .any, .any, .any, .v (.one (.sc (.int .i64 (IntKind.wrap .i64 ((1 : Int) + (IntKind.wrap .i64 ((Int.tmod (IntKind.wrap .u64 (a0)) (12 : Int))))))))), .v (.one (.ptr 0 ⟨0, 0, 0, 0⟩)), .any, .v (.one (.sc (.int .i64 x94))), .v (.one (.sc (.int .i64 x95))), .any, .any, .v (.one (.sc (.int .i64 t254.1))), .v (.one (.err t254.2.1)), .v (.one (.sc (.int .i64 x274))), .any, .any, .any, .any, .any, .any, .any, .any, .any, .any, .any, .any, .any, .any, .any, .any, .any, .any, .any, .any, .any, .any, .any, .any, .any, .any, .any, .any, .any, .any, .any, .any, .any, .any, .any, .any, .any, .any, .any, .any, .any, .any, .any, .any, .any, .any, .any, .any, .any, .any, .any, .any, .any, .any, .any, .any, .any, .any, .any, .any, .any, .any, .any, .any, .any, .any, .any, .any, .any, .any, .any, .any, .any, .any, .any, .any, .any, .any, .any, .any, .any, .any, .any, .any, .any, .any, .any, .any, .any, .any, .any, .any, .any, .any, .any, .any, .any, .any, .any, .any, .any, .any, .any, .any, .any, .any, .any, .any, .any, .any, .any, .any, .any, .any, .any, .any, .any, .any, .any, .any, .any, .any, .any, .any, .any, .any, .any, .any, .any, .any, .any, .any, .any, .any, .any, .any, .any, .any, .any, .any, .any, .any, .any, .any, .any, .any, .any, .any, .any, .any, .any, .any, .any, .any], [.ex false [.c (.os 1 0 0 1 t3.1 none)] 58, .ex false [.row t3.2.1 (.int .i64) t254.2.2] 3], 0⟩
def halterlaw04_FramesCount.l3_Q (t3 : Nat × Nat × (List Int)) (x94 : Int) (x95 : Int) (t254 : Int × (Option Int) × (List Int)) (a0 : Int) (a1 : (List (Int × Int))) : (Unit) ⊕ (Unit) → Exit → St → Prop
  | .inl t => fun e s => e = (.exit 3) ∧ s = ⟨[.any, .v (.one (.fs (.pair (.int .i64) (.int .i64)) a1 false)), .any, .any, .any, .v (.one (.sc (.int .i64 (IntKind.wrap .i64 ((1 : Int) + (IntKind.wrap .i64 ((Int.tmod (IntKind.wrap .u64 (a0)) (12 : Int))))))))), .v (.one (.ptr 0 ⟨0, 0, 0, 0⟩)), .any, .v (.one (.sc (.int .i64 x94))), .v (.one (.sc (.int .i64 x95))), .any, .any, .any, .v (.one (.err t254.2.1)), .any, .any, .any, .any, .any, .any, .any, .any, .any, .any, .any, .any, .any, .any, .any, .any, .any, .any, .any, .any, .any, .any, .any, .any, .any, .any, .any, .any, .any, .any, .any, .any, .any, .any, .any, .any, .any, .any, .any, .any, .any, .any, .any, .any, .any, .any, .any, .any, .any, .any, .any, .any, .any, .any, .any, .any, .any, .any, .any, .any, .any, .any, .any, .any, .any, .any, .any, .any, .any, .any, .any, .any, .any, .any, .any, .any, .any, .any, .any, .any, .any, .any, .any, .any, .any, .any, .any, .any, .any, .any, .any, .any, .any, .any, .any, .any, .any, .any, .any, .any, .any, .any, .any, .any, .any, .any, .any, .any, .any, .any, .any, .any, .any, .any, .any, .any, .any, .any, .any, .any, .any, .any, .any, .any, .any, .any, .any, .any, .any, .any, .any, .any, .any, .any, .any, .any, .any, .any, .any, .any, .any, .any, .any, .any, .any, .any, .any, .any, .any, .any, .any, .any, .any, .any, .any], [.ex false [.c (.os 1 0 0 1 t3.1 none)] 58, .ex false [.row t3.2.1 (.int .i64) t254.2.2] 3], 0⟩
  | .inr t => fun e s => e = .ret ∧ s = ⟨[.any, .any, .any, .any, .v (.one (.sc (.bool false))), .any, .any, .any, .any, .any, .any, .any, .any, .any, .any, .any, .any, .any, .any, .any, .any, .any, .any, .any, .any, .any, .any, .any, .any, .any, .any, .any, .any, .any, .any, .any, .any, .any, .any, .any, .any, .any, .any, .any, .any, .any, .any, .any, .any, .any, .any, .any, .any, .any, .any, .any, .any, .any, .any, .any, .any, .any, .any, .any, .any, .any, .any, .any, .any, .any, .any, .any, .any, .any, .any, .any, .any, .any, .any, .any, .any, .any, .any, .any, .any, .any, .any, .any, .any, .any, .any, .any, .any, .any, .any, .any, .any, .any, .any, .any, .any, .any, .any, .any, .any, .any, .any, .any, .any, .any, .any, .any, .any, .any, .any, .any, .any, .any, .any, .any, .any, .any, .any, .any, .any, .any, .any, .any, .any, .any, .any, .any, .any, .any, .any, .any, .any, .any, .any, .any, .any, .any, .any, .any, .any, .any, .any, .any, .any, .any, .any, .any, .any, .any, .any, .any, .any, .any, .any, .any, .any, .any, .any, .any, .any, .any, .any, .any, .any], [.ex false [.c (.os 1 0 0 1 t3.1 none)] 58, .ex false [.row t3.2.1 (.int .i64) t254.2.2] 3], 0⟩
theorem halterlaw04_FramesCount.l3_ok (t3 : Nat × Nat × (List Int)) (x94 : Int) (x95 : Int) (t254 : Int × (Option Int) × (List Int)) (a0 : Int) (a1 : (List (Int × Int))) : ∀ (n : Nat) (x274 : Int) (r : (Unit) ⊕ (Unit)), halterlaw04_FramesCount.l3 t3 x94 x95 t254 a0 a1 n x274 = some r → TripN cfg (cpath (Tryd.f4.body.getD .skip) [1, 1, 1, 1, 1, 0, 1, 0, 0, 1, 0, 0, 1, 1, 0, 1, 0, 1, 0, 1, 1, 0, 1, 0, 0]) n (halterlaw04_FramesCount.l3_S t3 x94 x95 t254 a0 a1 x274) (halterlaw04_FramesCount.l3_Q t3 x94 x95 t254 a0 a1 r) := by
  intro n
  induction n with
  | zero => intro x274 r h; cases h
  | succ n ih =>
    intro x274 r h
    rw [halterlaw04_FramesCount.l3] at h
    refine TripN.of_run cfg_ok (k := (.br (.one true (.one true (.br (.callR true [] [0, 1] (Int) (fun t282 => (frames_Frames_Refs.R t282)) (fun t282 => (frames_Frames_Refs.B x274 t3.1 t3.2.1 (z2 t254) t282)) (fun t282 => (.br (.adj [] (.adj [.keep [4], .drop 2] .nil)) (.adj [] (.adj [] (.adj [.keep [1, 5, 6, 8, 9, 12, 13, 14], .drop 2] .nil)))))) (.adj [.keep [1, 5, 6, 8, 9, 13], .drop 2] .nil)))) (.one false (.one false (.one false (.adj [.keep [1, 5, 6, 8, 9, 13], .drop 2] .nil)))))) (to_goal (q := (True) ∧ (((decide (x274 < t254.1)) = true → ((decide (x274 < t254.1)) = true ∧ (True) ∧ ((decide (x274 < t254.1)) = true ∧ (((Option.isNone t254.2.1) = true → (∃ t282 : Int, (Fun cfg 10 [.one (.ptr 0 ⟨0, 0, 0, 0⟩), .one (.sc (.int .i64 x274))] [.ex false [.c (.os 1 0 0 1 t3.1 none)] 58, .ex false [.row t3.2.1 (.int .i64) (z2 t254)] 3] (frames_Frames_Refs.R t282) (frames_Frames_Refs.B x274 t3.1 t3.2.1 (z2 t254) t282) ∧ True) ∧ (True) ∧ (((t282 == (0 : Int)) = true → (True ∧ (((True) ∧ (True) ∧ True) ∧ halterlaw04_FramesCount.l3_Q t3 x94 x95 t254 a0 a1 r .ret ⟨[.any, .any, .any, .any, .v (.one (.sc (.bool false))), .any, .any, .any, .any, .any, .any, .any, .any, .any, .any, .any, .any, .any, .any, .any, .any, .any, .any, .any, .any, .any, .any, .any, .any, .any, .any, .any, .any, .any, .any, .any, .any, .any, .any, .any, .any, .any, .any, .any, .any, .any, .any, .any, .any, .any, .any, .any, .any, .any, .any, .any, .any, .any, .any, .any, .any, .any, .any, .any, .any, .any, .any, .any, .any, .any, .any, .any, .any, .any, .any, .any, .any, .any, .any, .any, .any, .any, .any, .any, .any, .any, .any, .any, .any, .any, .any, .any, .any, .any, .any, .any, .any, .any, .any, .any, .any, .any, .any, .any, .any, .any, .any, .any, .any, .any, .any, .any, .any, .any, .any, .any, .any, .any, .any, .any, .any, .any, .any, .any, .any, .any, .any, .any, .any, .any, .any, .any, .any, .any, .any, .any, .any, .any, .any, .any, .any, .any, .any, .any, .any, .any, .any, .any, .any, .any, .any, .any, .any, .any, .any, .any, .any, .any, .any, .any, .any, .any, .any, .any, .any, .any, .any, .any, .any], [.ex false [.c (.os 1 0 0 1 t3.1 none)] 58, .ex false [.row t3.2.1 (.int .i64) (z2 t254)] 3], 0⟩))) ∧ ((t282 == (0 : Int)) = false → (True ∧ (True ∧ (True) ∧ (((True) ∧ (True) ∧ True) ∧ TripN cfg (cpath (Tryd.f4.body.getD .skip) [1, 1, 1, 1, 1, 0, 1, 0, 0, 1, 0, 0, 1, 1, 0, 1, 0, 1, 0, 1, 1, 0, 1, 0, 0]) n (halterlaw04_FramesCount.l3_S t3 x94 x95 t254 a0 a1 (IntKind.wrap .i64 (x274 + (1 : Int)))) (halterlaw04_FramesCount.l3_Q t3 x94 x95 t254 a0 a1 r)))))))) ∧ ((Option.isNone t254.2.1) = false → (((True) ∧ (True) ∧ True) ∧ halterlaw04_FramesCount.l3_Q t3 x94 x95 t254 a0 a1 r (.exit 3) ⟨[.any, .v (.one (.fs (.pair (.int .i64) (.int .i64)) a1 false)), .any, .any, .any, .v (.one (.sc (.int .i64 (IntKind.wrap .i64 ((1 : Int) + (IntKind.wrap .i64 ((Int.tmod (IntKind.wrap .u64 (a0)) (12 : Int))))))))), .v (.one (.ptr 0 ⟨0, 0, 0, 0⟩)), .any, .v (.one (.sc (.int .i64 x94))), .v (.one (.sc (.int .i64 x95))), .any, .any, .any, .v (.one (.err t254.2.1)), .any, .any, .any, .any, .any, .any, .any, .any, .any, .any, .any, .any, .any, .any, .any, .any, .any, .any, .any, .any, .any, .any, .any, .any, .any, .any, .any, .any, .any, .any, .any, .any, .any, .any, .any, .any, .any, .any, .any, .any, .any, .any, .any, .any, .any, .any, .any, .any, .any, .any, .any, .any, .any, .any, .any, .any, .any, .any, .any, .any, .any, .any, .any, .any, .any, .any, .any, .any, .any, .any, .any, .any, .any, .any, .any, .any, .any, .any, .any, .any, .any, .any, .any, .any, .any, .any, .any, .any, .any, .any, .any, .any, .any, .any, .any, .any, .any, .any, .any, .any, .any, .any, .any, .any, .any, .any, .any, .any, .any, .any, .any, .any, .any, .any, .any, .any, .any, .any, .any, .any, .any, .any, .any, .any, .any, .any, .any, .any, .any, .any, .any, .any, .any, .any, .any, .any, .any, .any, .any, .any, .any, .any, .any, .any, .any, .any, .any, .any, .any, .any, .any, .any, .any, .any, .any], [.ex false [.c (.os 1 0 0 1 t3.1 none)] 58, .ex false [.row t3.2.1 (.int .i64) (z2 t254)] 3], 0⟩)))))) ∧ ((decide (x274 < t254.1)) = false → ((decide (x274 < t254.1)) = false ∧ ((decide (x274 < t254.1)) = false ∧ (false = false ∧ (((True) ∧ (True) ∧ True) ∧ halterlaw04_FramesCount.l3_Q t3 x94 x95 t254 a0 a1 r (.exit 3) ⟨[.any, .v (.one (.fs (.pair (.int .i64) (.int .i64)) a1 false)), .any, .any, .any, .v (.one (.sc (.int .i64 (IntKind.wrap .i64 ((1 : Int) + (IntKind.wrap .i64 ((Int.tmod (IntKind.wrap .u64 (a0)) (12 : Int))))))))), .v (.one (.ptr 0 ⟨0, 0, 0, 0⟩)), .any, .v (.one (.sc (.int .i64 x94))), .v (.one (.sc (.int .i64 x95))), .any, .any, .any, .v (.one (.err t254.2.1)), .any, .any, .any, .any, .any, .any, .any, .any, .any, .any, .any, .any, .any, .any, .any, .any, .any, .any, .any, .any, .any, .any, .any, .any, .any, .any, .any, .any, .any, .any, .any, .any, .any, .any, .any, .any, .any, .any, .any, .any, .any, .any, .any, .any, .any, .any, .any, .any, .any, .any, .any, .any, .any, .any, .any, .any, .any, .any, .any, .any, .any, .any, .any, .any, .any, .any, .any, .any, .any, .any, .any, .any, .any, .any, .any, .any, .any, .any, .any, .any, .any, .any, .any, .any, .any, .any, .any, .any, .any, .any, .any, .any, .any, .any, .any, .any, .any, .any, .any, .any, .any, .any, .any, .any, .any, .any, .any, .any, .any, .any, .any, .any, .any, .any, .any, .any, .any, .any, .any, .any, .any, .any, .any, .any, .any, .any, .any, .any, .any, .any, .any, .any, .any, .any, .any, .any, .any, .any, .any, .any, .any, .any, .any, .any, .any, .any, .any, .any, .any, .any, .any, .any, .any, .any, .any], [.ex false [.c (.os 1 0 0 1 t3.1 none)] 58, .ex false [.row t3.2.1 (.int .i64) (z2 t254)] 3], 0⟩))))))) (by kernel_rfl) ?_)
    refine ⟨trivial, ?_⟩
    refine ⟨fun b280 => ?_, fun b280 => ?_⟩
    · rw [if_pos (of_decide_eq_true b280)] at h
      refine ⟨b280, ?_⟩
      refine ⟨trivial, ?_⟩
      refine ⟨b280, ?_⟩
      refine ⟨fun b281 => ?_, fun b281 => ?_⟩
      · rw [if_pos (none_t b281)] at h
        obtain ⟨t282, ht282, h⟩ := of_bind h
        refine ⟨t282, ⟨frames_Frames_Refs.fun_ ht282, trivial⟩, ?_⟩
        refine ⟨trivial, ?_⟩
        refine ⟨fun b283 => ?_, fun b283 => ?_⟩
        · rw [if_pos (beq_t b283)] at h
          refine ⟨trivial, ?_⟩
          obtain rfl := Option.some.inj h
          exact ⟨⟨trivial, trivial, trivial⟩, rfl, rfl⟩
        · rw [if_neg (beq_f b283)] at h
          refine ⟨trivial, ?_⟩
          refine ⟨trivial, ?_⟩
          refine ⟨trivial, ?_⟩
          exact ⟨⟨trivial, trivial, trivial⟩, ih (IntKind.wrap .i64 (x274 + (1 : Int))) r h⟩
      · rw [if_neg (none_f b281)] at h
        obtain rfl := Option.some.inj h
        exact ⟨⟨trivial, trivial, trivial⟩, rfl, rfl⟩
    · rw [if_neg (of_decide_eq_false b280)] at h
      refine ⟨b280, ?_⟩
      refine ⟨b280, ?_⟩
      refine ⟨rfl, ?_⟩
      obtain rfl := Option.some.inj h
      exact ⟨⟨trivial, trivial, trivial⟩, rfl, rfl⟩
def halterlaw04_FramesCount.l4 (t3 : Nat × Nat × (List Int)) (x94 : Int) (x95 : Int) (t288 : Int × (Option Int) × (List Int)) (a0 : Int) (a1 : (List (Int × Int))) : Nat → Int → Option ((Unit) ⊕ (Unit))
  | 0, _ => none
  | n + 1, x295 =>
    if x295 < t288.1 then
      if t288.2.1 = none then
        (frames_Frames_Refs.f x295 t3.1 t3.2.1 t288.2.2).bind fun t303 =>
        if t303 = (0 : Int) then
          some (.inr ())
        else
          halterlaw04_FramesCount.l4 t3 x94 x95 t288 a0 a1 n (IntKind.wrap .i64 (x295 + (1 : Int)))
      else
        some (.inl ())
    else
      some (.inl ())
def halterlaw04_FramesCount.l4_S (t3 : Nat × Nat × (List Int)) (x94 : Int) (x95 : Int) (t288 : Int × (Option Int) × (List Int)) (a0 : Int) (a1 : (List (Int × Int))) (x295 : Int) : St := ⟨[.any, .v (.one (.fs (.pair (.int .i64) (.int .i64)) a1 false)), .any, .any, .any, .v (.one (.sc (.int .i64 (IntKind.wrap .i64 ((1 : Int) + (IntKind.wrap .i64 ((Int.tmod (IntKind.wrap .u64 (a0)) (12 : Int))))))))), .v (.one (.ptr 0 ⟨0, 0, 0, 0⟩)), .any, .v (.one (.sc (.int .i64 x94))), .v (.one (.sc (.int .i64 x95))), .any, .any, .v (.one (.sc (.int .i64 t288.1))), .v (.one (.err t288.2.1)), .v (.one (.sc (.int .i64 x295))), .any, .any, .any, .any, .any, .any, .any, .any, .any, .any, .any, .any, .any, .any, .any, .any, .any, .any, .any, .any, .any, .any, .any, .any, .any, .any, .any, .any, .any, .any, .any, .any, .any, .any, .any, .any, .any, .any, .any, .any, .any, .any, .any, .any, .any, .any, .any, .any, .any, .any, .any, .any, .any, .any, .any, .any, .any, .any, .any, .any, .any, .any, .any, .any, .any, .any, .any, .any, .any, .any, .any, .any, .any, .any, .any, .any, .any, .any, .any, .any, .any, .any, .any, .any, .any, .any, .any, .any, .any, .any, .any, .any, .any, .any, .any, .any, .any, .any, .any, .any, .any, .any, .any, .any, .any, .any, .any, .any, .any, .any, .any, .any, .any, .any, .any, .any, .any, .any, .any, .any, .any, .any, .any, .any, .any, .any, .any, .any, .any, .any, .any, .any, .any, .any, .any, .any, .any, .any, .any, .any, .any, .any, .any, .any, .any, .any, .any, .any, .any, .any, .any, .any, .any, .any], [.ex false [.c (.os 1 0 0 1 t3.1 none)] 58, .ex false [.row t3.2.1 (.int .i64) t288.2.2] 3], 0⟩
def halterlaw04_FramesCount.l4_Q (t3 : Nat × Nat × (List Int)) (x94 : Int) (x95 : Int) (t288 : Int × (Option Int) × (List Int)) (a0 : Int) (a1 : (List (Int × Int))) : (Unit) ⊕ (Unit) → Exit → St → Prop
  | .inl t => fun e s => e = (.exit 3) ∧ s = ⟨[.any, .v (.one (.fs (.pair (.int .i64) (.int .i64)) a1 false)), .any, .any, .any, .v (.one (.sc (.int .i64 (IntKind.wrap .i64 ((1 : Int) + (IntKind.wrap .i64 ((Int.tmod (IntKind.wrap .u64 (a0)) (12 : Int))))))))), .v (.one (.ptr 0 ⟨0, 0, 0, 0⟩)), .any, .v (.one (.sc (.int .i64 x94))), .v (.one (.sc (.int .i64 x95))), .any, .any, .any, .v (.one (.err t288.2.1)), .any, .any, .any, .any, .any, .any, .any, .any, .any, .any, .any, .any, .any, .any, .any, .any, .any, .any, .any, .any, .any, .any, .any, .any, .any, .any, .any, .any, .any, .any, .any, .any, .any, .any, .any, .any, .any, .any, .any, .any, .any, .any, .any, .any, .any, .any, .any, .any, .any, .any, .any, .any, .any, .any, .any, .any, .any, .any, .any, .any, .any, .any, .any, .any, .any, .any, .any, .any, .any, .any, .any, .any, .any, .any, .any, .any, .any, .any, .any, .any, .any, .any, .any, .any, .any, .any, .any, .any, .any, .any, .any, .any, .any, .any, .any, .any, .any, .any, .any, .any, .any, .any, .any, .any, .any, .any, .any, .any, .any, .any, .any, .any, .any, .any, .any, .any, .any, .any, .any, .any, .any, .any, .any, .any, .any, .any, .any, .any, .any, .any, .any, .any, .any, .any, .any, .any, .any, .any, .any, .any, .any, .any, .any, .any, .any, .any, .any, .any, .any, .any, .any, .any, .any, .any, .any], [.ex false [.c (.os 1 0 0 1 t3.1 none)] 58, .ex false [.row t3.2.1 (.int .i64) t288.2.2] 3], 0⟩
  | .inr t => fun e s => e = .ret ∧ s = ⟨[.any, .any, .any, .any, .v (.one (.sc (.bool false))), .any, .any, .any, .any, .any, .any, .any, .any, .any, .any, .any, .any, .any, .any, .any, .any, .any, .any, .any, .any, .any, .any, .any, .any, .any, .any, .any, .any, .any, .any, .any, .any, .any, .any, .any, .any, .any, .any, .any, .any, .any, .any, .any, .any, .any, .any, .any, .any, .any, .any, .any, .any, .any, .any, .any, .any, .any, .any, .any, .any, .any, .any, .any, .any, .any, .any, .any, .any, .any, .any, .any, .any, .any, .any, .any, .any, .any, .any, .any, .any, .any, .any, .any, .any, .any, .any, .any, .any, .any, .any, .any, .any, .any, .any, .any, .any, .any, .any, .any, .any, .any, .any, .any, .any, .any, .any, .any, .any, .any, .any, .any, .any, .any, .any, .any, .any, .any, .any, .any, .any, .any, .any, .any, .any, .any, .any, .any, .any, .any, .any, .any, .any, .any, .any, .any, .any, .any, .any, .any, .any, .any, .any, .any, .any, .any, .any, .any, .any, .any, .any, .any, .any, .any, .any, .any, .any, .any, .any, .any, .any, .any, .any, .any, .any], [.ex false [.c (.os 1 0 0 1 t3.1 none)] 58, .ex false [.row t3.2.1 (.int .i64) t288.2.2] 3], 0⟩
theorem halterlaw04_FramesCount.l4_ok (t3 : Nat × Nat × (List Int)) (x94 : Int) (x95 : Int) (t288 : Int × (Option Int) × (List Int)) (a0 : Int) (a1 : (List (Int × Int))) : ∀ (n : Nat) (x295 : Int) (r : (Unit) ⊕ (Unit)), halterlaw04_FramesCount.l4 t3 x94 x95 t288 a0 a1 n x295 = some r → TripN cfg (cpath (Tryd.f4.body.getD .skip) [1, 1, 1, 1, 1, 0, 1, 0, 0, 1, 0, 0, 1, 1, 0, 1, 0, 1, 0, 1, 1, 0, 1, 0, 0]) n (halterlaw04_FramesCount.l4_S t3 x94 x95 t288 a0 a1 x295) (halterlaw04_FramesCount.l4_Q t3 x94 x95 t288 a0 a1 r) := by
  intro n
  induction n with
  | zero => intro x295 r h; cases h
  | succ n ih =>
    intro x295 r h
    rw [halterlaw04_FramesCount.l4] at h
    refine TripN.of_run cfg_ok (k := (.br (.one true (.one true (.br (.callR true [] [0, 1] (Int) (fun t303 => (frames_Frames_Refs.R t303)) (fun t303 => (frames_Frames_Refs.B x295 t3.1 t3.2.1 (z2 t288) t303)) (fun t303 => (.br (.adj [] (.adj [.keep [4], .drop 2] .nil)) (.adj [] (.adj [] (.adj [.keep [1, 5, 6, 8, 9, 12, 13, 14], .drop 2] .nil)))))) (.adj [.keep [1, 5, 6, 8, 9, 13], .drop 2] .nil)))) (.one false (.one false (.one false (.adj [.keep [1, 5, 6, 8, 9, 13], .drop 2] .nil)))))) (to_goal (q := (True) ∧ (((decide (x295 < t288.1)) = true → ((decide (x295 < t288.1)) = true ∧ (True) ∧ ((decide (x295 < t288.1)) = true ∧ (((Option.isNone t288.2.1) = true → (∃ t303 : Int, (Fun cfg 10 [.one (.ptr 0 ⟨0, 0, 0, 0⟩), .one (.sc (.int .i64 x295))] [.ex false [.c (.os 1 0 0 1 t3.1 none)] 58, .ex false [.row t3.2.1 (.int .i64) (z2 t288)] 3] (frames_Frames_Refs.R t303) (frames_Frames_Refs.B x295 t3.1 t3.2.1 (z2 t288) t303) ∧ True) ∧ (True) ∧ (((t303 == (0 : Int)) = true → (True ∧ (((True) ∧ (True) ∧ True) ∧ halterlaw04_FramesCount.l4_Q t3 x94 x95 t288 a0 a1 r .ret ⟨[.any, .any, .any, .any, .v (.one (.sc (.bool false))), .any, .any, .any, .any, .any, .any, .any, .any, .any, .any, .any, .any, .any, .any, .any, .any, .any, .any, .any, .any, .any, .any, .any, .any, .any, .any, .any, .any, .any, .any, .any, .any, .any, .any, .any, .any, .any, .any, .any, .any, .any, .any, .any, .any, .any, .any, .any, .any, .any, .any, .any, .any, .any, .any, .any, .any, .any, .any, .any, .any, .any, .any, .any, .any, .any, .any, .any, .any, .any, .any, .any, .any, .any, .any, .any, .any, .any, .any, .any, .any, .any, .any, .any, .any, .any, .any, .any, .any, .any, .any, .any, .any, .any, .any, .any, .any, .any, .any, .any, .any, .any, .any, .any, .any, .any, .any, .any, .any, .any, .any, .any, .any, .any, .any, .any, .any, .any, .any, .any, .any, .any, .any, .any, .any, .any, .any, .any, .any, .any, .any, .any, .any, .any, .any, .any, .any, .any, .any, .any, .any, .any, .any, .any, .any, .any, .any, .any, .any, .any, .any, .any, .any, .any, .any, .any, .any, .any, .any, .any, .any, .any, .any, .any, .any], [.ex false [.c (.os 1 0 0 1 t3.1 none)] 58, .ex false [.row t3.2.1 (.int .i64) (z2 t288)] 3], 0⟩))) ∧ ((t303 == (0 : Int)) = false → (True ∧ (True ∧ (True) ∧ (((True) ∧ (True) ∧ True) ∧ TripN cfg (cpath (Tryd.f4.body.getD .skip) [1, 1, 1, 1, 1, 0, 1, 0, 0, 1, 0, 0, 1, 1, 0, 1, 0, 1, 0, 1, 1, 0, 1, 0, 0]) n (halterlaw04_FramesCount.l4_S t3 x94 x95 t288 a0 a1 (IntKind.wrap .i64 (x295 + (1 : Int)))) (halterlaw04_FramesCount.l4_Q t3 x94 x95 t288 a0 a1 r)))))))) ∧ ((Option.isNone t288.2.1) = false → (((True) ∧ (True) ∧ True) ∧ halterlaw04_FramesCount.l4_Q t3 x94 x95 t288 a0 a1 r (.exit 3) ⟨[.any, .v (.one (.fs (.pair (.int .i64) (.int .i64)) a1 false)), .any, .any, .any, .v (.one (.sc (.int .i64 (IntKind.wrap .i64 ((1 : Int) + (IntKind.wrap .i64 ((Int.tmod (IntKind.wrap .u64 (a0)) (12 : Int))))))))), .v (.one (.ptr 0 ⟨0, 0, 0, 0⟩)), .any, .v (.one (.sc (.int .i64 x94))), .v (.one (.sc (.int .i64 x95))), .any, .any, .any, .v (.one (.err t288.2.1)), .any, .any, .any, .any, .any, .any, .any, .any, .any, .any, .any, .any, .any, .any, .any, .any, .any, .any, .any, .any, .any, .any, .any, .any, .any, .any, .any, .any, .any, .any, .any, .any, .any, .any, .any, .any, .any, .any, .any, .any, .any, .any, .any, .any, .any, .any, .any, .any, .any, .any, .any, .any, .any, .any, .any, .any, .any, .any, .any, .any, .any, .any, .any, .any, .any, .any, .any, .any, .any, .any, .any, .any, .any, .any, .any, .any, .any, .any, .any, .any, .any, .any, .any, .any, .any, .any, .any, .any, .any, .any, .any, .any, .any, .any, .any, .any, .any, .any, .any, .any, .any, .any, .any, .any, .any, .any, .any, .any, .any, .any, .any, .any, .any, .any, .any, .any, .any, .any, .any, .any, .any, .any, .any, .any, .any, .any, .any, .any, .any, .any, .any, .any, .any, .any, .any, .any, .any, .any, .any, .any, .any, .any, .any, .any, .any, .any, .any, .any, .any, .any, .any, .any, .any, .any, .any], [.ex false [.c (.os 1 0 0 1 t3.1 none)] 58, .ex false [.row t3.2.1 (.int .i64) (z2 t288)] 3], 0⟩)))))) ∧ ((decide (x295 < t288.1)) = false → ((decide (x295 < t288.1)) = false ∧ ((decide (x295 < t288.1)) = false ∧ (false = false ∧ (((True) ∧ (True) ∧ True) ∧ halterlaw04_FramesCount.l4_Q t3 x94 x95 t288 a0 a1 r (.exit 3) ⟨[.any, .v (.one (.fs (.pair (.int .i64) (.int .i64)) a1 false)), .any, .any, .any, .v (.one (.sc (.int .i64 (IntKind.wrap .i64 ((1 : Int) + (IntKind.wrap .i64 ((Int.tmod (IntKind.wrap .u64 (a0)) (12 : Int))))))))), .v (.one (.ptr 0 ⟨0, 0, 0, 0⟩)), .any, .v (.one (.sc (.int .i64 x94))), .v (.one (.sc (.int .i64 x95))), .any, .any, .any, .v (.one (.err t288.2.1)), .any, .any, .any, .any, .any, .any, .any, .any, .any, .any, .any, .any, .any, .any, .any, .any, .any, .any, .any, .any, .any, .any, .any, .any, .any, .any, .any, .any, .any, .any, .any, .any, .any, .any, .any, .any, .any, .any, .any, .any, .any, .any, .any, .any, .any, .any, .any, .any, .any, .any, .any, .any, .any, .any, .any, .any, .any, .any, .any, .any, .any, .any, .any, .any, .any, .any, .any, .any, .any, .any, .any, .any, .any, .any, .any, .any, .any, .any, .any, .any, .any, .any, .any, .any, .any, .any, .any, .any, .any, .any, .any, .any, .any, .any, .any, .any, .any, .any, .any, .any, .any, .any, .any, .any, .any, .any, .any, .any, .any, .any, .any, .any, .any, .any, .any, .any, .any, .any, .any, .any, .any, .any, .any, .any, .any, .any, .any, .any, .any, .any, .any, .any, .any, .any, .any, .any, .any, .any, .any, .any, .any, .any, .any, .any, .any, .any, .any, .any, .any, .any, .any, .any, .any, .any, .any], [.ex false [.c (.os 1 0 0 1 t3.1 none)] 58, .ex false [.row t3.2.1 (.int .i64) (z2 t288)] 3], 0⟩))))))) (by kernel_rfl) ?_)
    refine ⟨trivial, ?_⟩
    refine ⟨fun b301 => ?_, fun b301 => ?_⟩
    · rw [if_pos (of_decide_eq_true b301)] at h
      refine ⟨b301, ?_⟩
      refine ⟨trivial, ?_⟩
      refine ⟨b301, ?_⟩
      refine ⟨fun b302 => ?_, fun b302 => ?_⟩
      · rw [if_pos (none_t b302)] at h
        obtain ⟨t303, ht303, h⟩ := of_bind h
        refine ⟨t303, ⟨frames_Frames_Refs.fun_ ht303, trivial⟩, ?_⟩
        refine ⟨trivial, ?_⟩
        refine ⟨fun b304 => ?_, fun b304 => ?_⟩
        · rw [if_pos (beq_t b304)] at h
          refine ⟨trivial, ?_⟩
          obtain rfl := Option.some.inj h
          exact ⟨⟨trivial, trivial, trivial⟩, rfl, rfl⟩
        · rw [if_neg (beq_f b304)] at h
          refine ⟨trivial, ?_⟩
          refine ⟨trivial, ?_⟩
          refine ⟨trivial, ?_⟩
          exact ⟨⟨trivial, trivial, trivial⟩, ih (IntKind.wrap .i64 (x295 + (1 : Int))) r h⟩
      · rw [if_neg (none_f b302)] at h
        obtain rfl := Option.some.inj h
        exact ⟨⟨trivial, trivial, trivial⟩, rfl, rfl⟩
    · rw [if_neg (of_decide_eq_false b301)] at h
      refine ⟨b301, ?_⟩
      refine ⟨b301, ?_⟩
      refine ⟨rfl, ?_⟩
      obtain rfl := Option.some.inj h
      exact ⟨⟨trivial, trivial, trivial⟩, rfl, rfl⟩
def halterlaw04_FramesCount.l5 (t3 : Nat × Nat × (List Int)) (x94 : Int) (x95 : Int) (t288 : Int × (Option Int) × (List Int)) (a0 : Int) (a1 : (List (Int × Int))) : Nat → Int → Option ((Unit) ⊕ (Unit))
  | 0, _ => none
  | n + 1, x308 =>
    if x308 < t288.1 then
      if t288.2.1 = none then
        (frames_Frames_Refs.f x308 t3.1 t3.2.1 t288.2.2).bind fun t316 =>
        if t316 = (0 : Int) then
          some (.inr ())
        else
          halterlaw04_FramesCount.l5 t3 x94 x95 t288 a0 a1 n (IntKind.wrap .i64 (x308 + (1 : Int)))
      else
        some (.inl ())
    else
      some (.inl ())
def halterlaw04_FramesCount.l5_S (t3 : Nat × Nat × (List Int)) (x94 : Int) (x95 : Int) (t288 : Int × (Option Int) × (List Int)) (a0 : Int) (a1 : (List (Int × Int))) (x308 : Int) : St := ⟨[.any, .v (.one (.fs (.pair (.int .i64) (.int .i64)) a1 false)), .any, .any, .any, .v (.one (.sc (.int .i64 (IntKind.wrap .i64 ((1 : Int) + (IntKind.wrap .i64 ((Int.tmod (IntKind.wrap .u64 (a0)) (12 : Int))))))))), .v (.one (.ptr 0 ⟨0, 0, 0, 0⟩)), .any, .v (.one (.sc (.int .i64 x94))), .v (.one (.sc (.int .i64 x95))), .any, .any, .v (.one (.sc (.int .i64 t288.1))), .v (.one (.err t288.2.1)), .v (.one (.sc (.int .i64 x308))), .any, .any, .any, .any, .any, .any, .any, .any, .any, .any, .any, .any, .any, .any, .any, .any, .any, .any, .any, .any, .any, .any, .any, .any, .any, .any, .any, .any, .any, .any, .any, .any, .any, .any, .any, .any, .any, .any, .any, .any, .any, .any, .any, .any, .any, .any, .any, .any, .any, .any, .any, .any, .any, .any, .any, .any, .any, .any, .any, .any, .any, .any, .any, .any, .any, .any, .any, .any, .any, .any, .any, .any, .any, .any, .any, .any, .any, .any, .any, .any, .any, .any, .any, .any, .any, .any, .any, .any, .any, .any, .any, .any, .any, .any, .any, .any, .any, .any, .any, .any, .any, .any, .any, .any, .any, .any, .any, .any, .any, .any, .any, .any, .any, .any, .any, .any, .any, .any, .any, .any, .any, .any, .any, .any, .any, .any, .any, .any, .any, .any, .any, .any, .any, .any, .any, .any, .any, .any, .any, .any, .any, .any, .any, .any, .any, .any, .any, .any, .any, .any, .any, .any, .any, .any], [.ex false [.c (.os 1 0 0 1 t3.1 none)] 58, .ex false [.row t3.2.1 (.int .i64) t288.2.2] 3], 0⟩
def halterlaw04_FramesCount.l5_Q (t3 : Nat × Nat × (List Int)) (x94 : Int) (x95 : Int) (t288 : Int × (Option Int) × (List Int)) (a0 : Int) (a1 : (List (Int × Int))) : (Unit) ⊕ (Unit) → Exit → St → Prop
  | .inl t => fun e s => e = (.exit 3) ∧ s = ⟨[.any, .v (.one (.fs (.pair (.int .i64) (.int .i64)) a1 false)), .any, .any, .any, .v (.one (.sc (.int .i64 (IntKind.wrap .i64 ((1 : Int) + (IntKind.wrap .i64 ((Int.tmod (IntKind.wrap .u64 (a0)) (12 : Int))))))))), .v (.one (.ptr 0 ⟨0, 0, 0, 0⟩)), .any, .v (.one (.sc (.int .i64 x94))), .v (.one (.sc (.int .i64 x95))), .any, .any, .any, .v (.one (.err t288.2.1)), .any, .any, .any, .any, .any, .any, .any, .any, .any, .any, .any, .any, .any, .any, .any, .any, .any, .any, .any, .any, .any, .any, .any, .any, .any, .any, .any, .any, .any, .any, .any, .any, .any, .any, .any, .any, .any, .any, .any, .any, .any, .any, .any, .any, .any, .any, .any, .any, .any, .any, .any, .any, .any, .any, .any, .any, .any, .any, .any, .any, .any, .any, .any, .any, .any, .any, .any, .any, .any, .any, .any, .any, .any, .any, .any, .any, .any, .any, .any, .any, .any, .any, .any, .any, .any, .any, .any, .any, .any, .any, .any, .any, .any, .any, .any, .any, .any, .any, .any, .any, .any, .any, .any, .any, .any, .any, .any, .any, .any, .any, .any, .any, .any, .any, .any, .any, .any, .any, .any, .any, .any, .any, .any, .any, .any, .any, .any, .any, .any, .any, .any, .any, .any, .any, .any, .any, .any, .any, .any, .any, .any, .any, .any, .any, .any, .any, .any, .any, .any, .any, .any, .any, .any, .any, .any], [.ex false [.c (.os 1 0 0 1 t3.1 none)] 58, .ex false [.row t3.2.1 (.int .i64) t288.2.2] 3], 0⟩
  | .inr t => fun e s => e = .ret ∧ s = ⟨[.any, .any, .any, .any, .v (.one (.sc (.bool false))), .any, .any, .any, .any, .any, .any, .any, .any, .any, .any, .any, .any, .any, .any, .any, .any, .any, .any, .any, .any, .any, .any, .any, .any, .any, .any, .any, .any, .any, .any, .any, .any, .any, .any, .any, .any, .any, .any, .any, .any, .any, .any, .any, .any, .any, .any, .any, .any, .any, .any, .any, .any, .any, .any, .any, .any, .any, .any, .any, .any, .any, .any, .any, .any, .any, .any, .any, .any, .any, .any, .any, .any, .any, .any, .any, .any, .any, .any, .any, .any, .any, .any, .any, .any, .any, .any, .any, .any, .any, .any, .any, .any, .any, .any, .any, .any, .any, .any, .any, .any, .any, .any, .any, .any, .any, .any, .any, .any, .any, .any, .any, .any, .any, .any, .any, .any, .any, .any, .any, .any, .any, .any, .any, .any, .any, .any, .any, .any, .any, .any, .any, .any, .any, .any, .any, .any, .any, .any, .any, .any, .any, .any, .any, .any, .any, .any, .any, .any, .any, .any, .any, .any, .any, .any, .any, .any, .any, .any, .any, .any, .any, .any, .any, .any], [.ex false [.c (.os 1 0 0 1 t3.1 none)] 58, .ex false [.row t3.2.1 (.int .i64) t288.2.2] 3], 0⟩
theorem halterlaw04_FramesCount.l5_ok (t3 : Nat × Nat × (List Int)) (x94 : Int) (x95 : Int) (t288 : Int × (Option Int) × (List Int)) (a0 : Int) (a1 : (List (Int × Int))) : ∀ (n : Nat) (x308 : Int) (r : (Unit) ⊕ (Unit)), halterlaw04_FramesCount.l5 t3 x94 x95 t288 a0 a1 n x308 = some r → TripN cfg (cpath (Tryd.f4.body.getD .skip) [1, 1, 1, 1, 1, 0, 1, 0, 0, 1, 0, 0, 1, 1, 0, 1, 0, 1, 0, 1, 1, 0, 1, 0, 0]) n (halterlaw04_FramesCount.l5_S t3 x94 x95 t288 a0 a1 x308) (halterlaw04_FramesCount.l5_Q t3 x94 x95 t288 a0 a1 r) := by
  intro n
  induction n with
  | zero => intro x308 r h; cases h
  | succ n ih =>
    intro x308 r h
    rw [halterlaw04_FramesCount.l5] at h
    refine TripN.of_run cfg_ok (k := (.br (.one true (.one true (.br (.callR true [] [0, 1] (Int) (fun t316 => (frames_Frames_Refs.R t316)) (fun t316 => (frames_Frames_Refs.B x308 t3.1 t3.2.1 (z2 t288) t316)) (fun t316 => (.br (.adj [] (.adj [.keep [4], .drop 2] .nil)) (.adj [] (.adj [] (.adj [.keep [1, 5, 6, 8, 9, 12, 13, 14], .drop 2] .nil)))))) (.adj [.keep [1, 5, 6, 8, 9, 13], .drop 2] .nil)))) (.one false (.one false (.one false (.adj [.keep [1, 5, 6, 8, 9, 13], .drop 2] .nil)))))) (to_goal (q := (True) ∧ (((decide (x308 < t288.1)) = true → ((decide (x308 < t288.1)) = true ∧ (True) ∧ ((decide (x308 < t288.1)) = true ∧ (((Option.isNone t288.2.1) = true → (∃ t316 : Int, (Fun cfg 10 [.one (.ptr 0 ⟨0, 0, 0, 0⟩), .one (.sc (.int .i64 x308))] [.ex false [.c (.os 1 0 0 1 t3.1 none)] 58, .ex false [.row t3.2.1 (.int .i64) (z2 t288)] 3] (frames_Frames_Refs.R t316) (frames_Frames_Refs.B x308 t3.1 t3.2.1 (z2 t288) t316) ∧ True) ∧ (True) ∧ (((t316 == (0 : Int)) = true → (True ∧ (((True) ∧ (True) ∧ True) ∧ halterlaw04_FramesCount.l5_Q t3 x94 x95 t288 a0 a1 r .ret ⟨[.any, .any, .any, .any, .v (.one (.sc (.bool false))), .any, .any, .any, .any, .any, .any, .any, .any, .any, .any, .any, .any, .any, .any, .any, .any, .any, .any, .any, .any, .any, .any, .any, .any, .any, .any, .any, .any, .any, .any, .any, .any, .any, .any, .any, .any, .any, .any, .any, .any, .any, .any, .any, .any, .any, .any, .any, .any, .any, .any, .any, .any, .any, .any, .any, .any, .any, .any, .any, .any, .any, .any, .any, .any, .any, .any, .any, .any, .any, .any, .any, .any, .any, .any, .any, .any, .any, .any, .any, .any, .any, .any, .any, .any, .any, .any, .any, .any, .any, .any, .any, .any, .any, .any, .any, .any, .any, .any, .any, .any, .any, .any, .any, .any, .any, .any, .any, .any, .any, .any, .any, .any, .any, .any, .any, .any, .any, .any, .any, .any, .any, .any, .any, .any, .any, .any, .any, .any, .any, .any, .any, .any, .any, .any, .any, .any, .any, .any, .any, .any, .any, .any, .any, .any, .any, .any, .any, .any, .any, .any, .any, .any, .any, .any, .any, .any, .any, .any, .any, .any, .any, .any, .any, .any], [.ex false [.c (.os 1 0 0 1 t3.1 none)] 58, .ex false [.row t3.2.1 (.int .i64) (z2 t288)] 3], 0⟩))) ∧ ((t316 == (0 : Int)) = false → (True ∧ (True ∧ (True) ∧ (((True) ∧ (True) ∧ True) ∧ TripN cfg (cpath (Tryd.f4.body.getD .skip) [1, 1, 1, 1, 1, 0, 1, 0, 0, 1, 0, 0, 1, 1, 0, 1, 0, 1, 0, 1, 1, 0, 1, 0, 0]) n (halterlaw04_FramesCount.l5_S t3 x94 x95 t288 a0 a1 (IntKind.wrap .i64 (x308 + (1 : Int)))) (halterlaw04_FramesCount.l5_Q t3 x94 x95 t288 a0 a1 r)))))))) ∧ ((Option.isNone t288.2.1) = false → (((True) ∧ (True) ∧ True) ∧ halterlaw04_FramesCount.l5_Q t3 x94 x95 t288 a0 a1 r (.exit 3) ⟨[.any, .v (.one (.fs (.pair (.int .i64) (.int .i64)) a1 false)), .any, .any, .any, .v (.one (.sc (.int .i64 (IntKind.wrap .i64 ((1 : Int) + (IntKind.wrap .i64 ((Int.tmod (IntKind.wrap .u64 (a0)) (12 : Int))))))))), .v (.one (.ptr 0 ⟨0, 0, 0, 0⟩)), .any, .v (.one (.sc (.int .i64 x94))), .v (.one (.sc (.int .i64 x95))), .any, .any, .any, .v (.one (.err t288.2.1)), .any, .any, .any, .any, .any, .any, .any, .any, .any, .any, .any, .any, .any, .any, .any, .any, .any, .any, .any, .any, .any, .any, .any, .any, .any, .any, .any, .any, .any, .any, .any, .any, .any, .any, .any, .any, .any, .any, .any, .any, .any, .any, .any, .any, .any, .any, .any, .any, .any, .any, .any, .any, .any, .any, .any, .any, .any, .any, .any, .any, .any, .any, .any, .any, .any, .any, .any, .any, .any, .any, .any, .any, .any, .any, .any, .any, .any, .any, .any, .any, .any, .any, .any, .any, .any, .any, .any, .any, .any, .any, .any, .any, .any, .any, .any, .any, .any, .any, .any, .any, .any, .any, .any, .any, .any, .any, .any, .any, .any, .any, .any, .any, .any, .any, .any, .any, .any, .any, .any, .any, .any, .any, .any, .any, .any, .any, .any, .any, .any, .any, .any, .any, .any, .any, .any, .any, .any, .any, .any, .any, .any, .any, .any, .any, .any, .any, .any, .any, .any, .any, .any, .any, .any, .any, .any], [.ex false [.c (.os 1 0 0 1 t3.1 none)] 58, .ex false [.row t3.2.1 (.int .i64) (z2 t288)] 3], 0⟩)))))) ∧ ((decide (x308 < t288.1)) = false → ((decide (x308 < t288.1)) = false ∧ ((decide (x308 < t288.1)) = false ∧ (false = false ∧ (((True) ∧ (True) ∧ True) ∧ halterlaw04_FramesCount.l5_Q t3 x94 x95 t288 a0 a1 r (.exit 3) ⟨[.any, .v (.one (.fs (.pair (.int .i64) (.int .i64)) a1 false)), .any, .any, .any, .v (.one (.sc (.int .i64 (IntKind.wrap .i64 ((1 : Int) + (IntKind.wrap .i64 ((Int.tmod (IntKind.wrap .u64 (a0)) (12 : Int))))))))), .v (.one (.ptr 0 ⟨0, 0, 0, 0⟩)), .any, .v (.one (.sc (.int .i64 x94))), .v (.one (.sc (.int .i64 x95))), .any, .any, .any, .v (.one (.err t288.2.1)), .any, .any, .any, .any, .any, .any, .any, .any, .any, .any, .any, .any, .any, .any, .any, .any, .any, .any, .any, .any, .any, .any, .any, .any, .any, .any, .any, .any, .any, .any, .any, .any, .any, .any, .any, .any, .any, .any, .any, .any, .any, .any, .any, .any, .any, .any, .any, .any, .any, .any, .any, .any, .any, .any, .any, .any, .any, .any, .any, .any, .any, .any, .any, .any, .any, .any, .any, .any, .any, .any, .any, .any, .any, .any, .any, .any, .any, .any, .any, .any, .any, .any, .any, .any, .any, .any, .any, .any, .any, .any, .any, .any, .any, .any, .any, .any, .any, .any, .any, .any, .any, .any, .any, .any, .any, .any, .any, .any, .any, .any, .any, .any, .any, .any, .any, .any, .any, .any, .any, .any, .any, .any, .any, .any, .any, .any, .any, .any, .any, .any, .any, .any, .any, .any, .any, .any, .any, .any, .any, .any, .any, .any, .any, .any, .any, .any, .any, .any, .any, .any, .any, .any, .any, .any, .any], [.ex false [.c (.os 1 0 0 1 t3.1 none)] 58, .ex false [.row t3.2.1 (.int .i64) (z2 t288)] 3], 0⟩))))))) (by kernel_rfl) ?_)
    refine ⟨trivial, ?_⟩
    refine ⟨fun b314 => ?_, fun b314 => ?_⟩
    · rw [if_pos (of_decide_eq_true b314)] at h
      refine ⟨b314, ?_⟩
      refine ⟨trivial, ?_⟩
      refine ⟨b314, ?_⟩
      refine ⟨fun b315 => ?_, fun b315 => ?_⟩
      · rw [if_pos (none_t b315)] at h
        obtain ⟨t316, ht316, h⟩ := of_bind h
        refine ⟨t316, ⟨frames_Frames_Refs.fun_ ht316, trivial⟩, ?_⟩
        refine ⟨trivial, ?_⟩
        refine ⟨fun b317 => ?_, fun b317 => ?_⟩
        · rw [if_pos (beq_t b317)] at h
          refine ⟨trivial, ?_⟩
          obtain rfl := Option.some.inj h
          exact ⟨⟨trivial, trivial, trivial⟩, rfl, rfl⟩
        · rw [if_neg (beq_f b317)] at h
          refine ⟨trivial, ?_⟩
          refine ⟨trivial, ?_⟩
          refine ⟨trivial, ?_⟩
          exact ⟨⟨trivial, trivial, trivial⟩, ih (IntKind.wrap .i64 (x308 + (1 : Int))) r h⟩
      · rw [if_neg (none_f b315)] at h
        obtain rfl := Option.some.inj h
        exact ⟨⟨trivial, trivial, trivial⟩, rfl, rfl⟩
    · rw [if_neg (of_decide_eq_false b314)] at h
      refine ⟨b314, ?_⟩
      refine ⟨b314, ?_⟩
      refine ⟨rfl, ?_⟩
      obtain rfl := Option.some.inj h
      exact ⟨⟨trivial, trivial, trivial⟩, rfl, rfl⟩
def halterlaw04_FramesCount.j1 (t3 : Nat × Nat × (List Int)) (x93 : List Int) (x94 : Int) (x95 : Int) (t188 : Int) (a0 : Int) (a1 : (List (Int × Int))) : Option (((List Int) × Int) ⊕ ((List Int))) :=
  if (IntKind.wrap .i64 ((Int.tmod (IntKind.wrap .u64 ((List.getD a1 (Int.toNat x95) ((0 : Int), (0 : Int))).1)) (4 : Int)))) = (0 : Int) then
    (frames_Frames_Alloc.f t3.1 t3.2.1 x93).bind fun t254 =>
    if ¬ ((Option.isNone t254.2.1) = (decide (t188 > (0 : Int)))) then
      some (.inr t254.2.2)
    else
      if t254.2.1 = none then
        (frames_Frames_Refs.f t254.1 t3.1 t3.2.1 t254.2.2).bind fun t257 =>
        if ¬ t257 = (1 : Int) then
          some (.inr t254.2.2)
        else
          (frames_Frames_Free.f t3.1 t3.2.1 t254.2.2).bind fun t259 =>
          if ¬ t259 = (IntKind.wrap .i64 (t188 - (1 : Int))) then
            some (.inr t254.2.2)
          else
            (halterlaw04_FramesCount.l2 t3 x94 x95 t254 a0 a1 FUEL (0 : Int)).bind fun t266 =>
            match t266 with
            | .inl t271 =>
              if t254.2.1 = none then
                some (.inl (t254.2.2, (IntKind.wrap .i64 (x94 + (1 : Int)))))
              else
                some (.inl (t254.2.2, x94))
            | .inr t273 =>
              some (.inr t254.2.2)
      else
        (halterlaw04_FramesCount.l3 t3 x94 x95 t254 a0 a1 FUEL (0 : Int)).bind fun t279 =>
        match t279 with
        | .inl t284 =>
          if t254.2.1 = none then
            some (.inl (t254.2.2, (IntKind.wrap .i64 (x94 + (1 : Int)))))
          else
            some (.inl (t254.2.2, x94))
        | .inr t286 =>
          some (.inr t254.2.2)
  else
    if (IntKind.wrap .i64 ((Int.tmod (IntKind.wrap .u64 ((List.getD a1 (Int.toNat x95) ((0 : Int), (0 : Int))).1)) (4 : Int)))) = (1 : Int) then
      (frames_Frames_Alloc.f t3.1 t3.2.1 x93).bind fun t288 =>
      if ¬ ((Option.isNone t288.2.1) = (decide (t188 > (0 : Int)))) then
        some (.inr t288.2.2)
      else
        if t288.2.1 = none then
          (frames_Frames_Refs.f t288.1 t3.1 t3.2.1 t288.2.2).bind fun t291 =>
          if ¬ t291 = (1 : Int) then
            some (.inr t288.2.2)
          else
            (frames_Frames_Free.f t3.1 t3.2.1 t288.2.2).bind fun t293 =>
            if ¬ t293 = (IntKind.wrap .i64 (t188 - (1 : Int))) then
              some (.inr t288.2.2)
            else
              (halterlaw04_FramesCount.l4 t3 x94 x95 t288 a0 a1 FUEL (0 : Int)).bind fun t300 =>
              match t300 with
              | .inl t305 =>
                if t288.2.1 = none then
                  some (.inl (t288.2.2, (IntKind.wrap .i64 (x94 + (1 : Int)))))
                else
                  some (.inl (t288.2.2, x94))
              | .inr t307 =>
                some (.inr t288.2.2)
        else
          (halterlaw04_FramesCount.l5 t3 x94 x95 t288 a0 a1 FUEL (0 : Int)).bind fun t313 =>
          match t313 with
          | .inl t318 =>
            if t288.2.1 = none then
              some (.inl (t288.2.2, (IntKind.wrap .i64 (x94 + (1 : Int)))))
            else
              some (.inl (t288.2.2, x94))
          | .inr t320 =>
            some (.inr t288.2.2)
    else
      if (IntKind.wrap .i64 ((Int.tmod (IntKind.wrap .u64 ((List.getD a1 (Int.toNat x95) ((0 : Int), (0 : Int))).1)) (4 : Int)))) = (2 : Int) then
        (frames_Frames_Ref.f (IntKind.wrap .i64 ((Int.tmod (IntKind.wrap .u64 ((List.getD a1 (Int.toNat x95) ((0 : Int), (0 : Int))).2)) (IntKind.wrap .u64 ((IntKind.wrap .i64 ((1 : Int) + (IntKind.wrap .i64 ((Int.tmod (IntKind.wrap .u64 (a0)) (12 : Int))))))))))) t3.1 t3.2.1 x93).bind fun t322 =>
        if t322.1 = none then
          some (.inl (t322.2, (IntKind.wrap .i64 (x94 + (1 : Int)))))
        else
          some (.inl (t322.2, x94))
      else
        (frames_Frames_Refs.f (IntKind.wrap .i64 ((Int.tmod (IntKind.wrap .u64 ((List.getD a1 (Int.toNat x95) ((0 : Int), (0 : Int))).2)) (IntKind.wrap .u64 ((IntKind.wrap .i64 ((1 : Int) + (IntKind.wrap .i64 ((Int.tmod (IntKind.wrap .u64 (a0)) (12 : Int))))))))))) t3.1 t3.2.1 x93).bind fun t324 =>
        (frames_Frames_Unref.f (IntKind.wrap .i64 ((Int.tmod (IntKind.wrap .u64 ((List.getD a1 (Int.toNat x95) ((0 : Int), (0 : Int))).2)) (IntKind.wrap .u64 ((IntKind.wrap .i64 ((1 : Int) + (IntKind.wrap .i64 ((Int.tmod (IntKind.wrap .u64 (a0)) (12 : Int))))))))))) t3.1 t3.2.1 x93).bind fun t325 =>
        if ¬ ((Option.isNone t325.2.1) = (decide (t324 > (0 : Int)))) then
          some (.inr t325.2.2)
        else
          if ¬ (t325.1 = (t324 == (1 : Int))) then
            some (.inr t325.2.2)
          else
            if t325.2.1 = none then
              some (.inl (t325.2.2, (IntKind.wrap .i64 (x94 - (1 : Int)))))
            else
              some (.inl (t325.2.2, x94))
def halterlaw04_FramesCount.j1_S (t3 : Nat × Nat × (List Int)) (x93 : List Int) (x94 : Int) (x95 : Int) (t188 : Int) (a0 : Int) (a1 : (List (Int × Int))) : St := ⟨[.any, .v (.one (.fs (.pair (.int .i64) (.int .i64)) a1 false)), .any, .any, .any, .v (.one (.sc (.int .i64 (IntKind.wrap .i64 ((1 : Int) + (IntKind.wrap .i64 ((Int.tmod (IntKind.wrap .u64 (a0)) (12 : Int))))))))), .v (.one (.ptr 0 ⟨0, 0, 0, 0⟩)), .any, .v (.one (.sc (.int .i64 x94))), .v (.one (.sc (.int .i64 x95))), .v (.one (.sc (.int .i64 (IntKind.wrap .i64 ((Int.tmod (IntKind.wrap .u64 ((List.getD a1 (Int.toNat x95) ((0 : Int), (0 : Int))).2)) (IntKind.wrap .u64 ((IntKind.wrap .i64 ((1 : Int) + (IntKind.wrap .i64 ((Int.tmod (IntKind.wrap .u64 (a0)) (12 : Int)))))))))))))), .v (.one (.sc (.int .i64 t188))), .any, .any, .any, .any, .any, .any, .any, .any, .any, .any, .any, .any, .any, .any, .any, .any, .any, .any, .any, .any, .any, .any, .any, .any, .any, .any, .any, .any, .any, .any, .any, .any, .any, .any, .any, .any, .any, .any, .any, .any, .any, .any, .any, .any, .any, .any, .any, .any, .any, .any, .any, .any, .any, .v (.one (.sc (.int .i64 (IntKind.wrap .i64 ((Int.tmod (IntKind.wrap .u64 ((List.getD a1 (Int.toNat x95) ((0 : Int), (0 : Int))).1)) (4 : Int))))))), .any, .any, .any, .any, .any, .any, .any, .any, .any, .any, .any, .any, .any, .any, .any, .any, .any, .any, .any, .any, .any, .any, .any, .any, .any, .any, .any, .any, .any, .any, .any, .any, .any, .any, .any, .any, .any, .any, .any, .any, .any, .any, .any, .any, .any, .any, .any, .any, .any, .any, .any, .any, .any, .any, .any, .any, .any, .any, .any, .any, .any, .any, .any, .any, .any, .any, .any, .any, .any, .any, .any, .any, .any, .any, .any, .any, .any, .any, .any, .any, .any, .any, .any, .any, .any, .any, .any, .any, .any, .any, .any, .any, .any, .any, .any, .any, .any, .any, .any, .any, .any, .any, .any], [.ex false [.c (.os 1 0 0 1 t3.1 none)] 58, .ex false [.row t3.2.1 (.int .i64) x93] 3], 0⟩
def halterlaw04_FramesCount.j1_Q (t3 : Nat × Nat × (List Int)) (x93 : List Int) (x94 : Int) (x95 : Int) (t188 : Int) (a0 : Int) (a1 : (List (Int × Int))) : ((List Int) × Int) ⊕ ((List Int)) → Exit → St → Prop
  | .inl t => fun e s => e = .normal ∧ s = ⟨[.any, .v (.one (.fs (.pair (.int .i64) (.int .i64)) a1 false)), .any, .any, .any, .v (.one (.sc (.int .i64 (IntKind.wrap .i64 ((1 : Int) + (IntKind.wrap .i64 ((Int.tmod (IntKind.wrap .u64 (a0)) (12 : Int))))))))), .v (.one (.ptr 0 ⟨0, 0, 0, 0⟩)), .any, .v (.one (.sc (.int .i64 t.2))), .v (.one (.sc (.int .i64 x95))), .any, .any, .any, .any, .any, .any, .any, .any, .any, .any, .any, .any, .any, .any, .any, .any, .any, .any, .any, .any, .any, .any, .any, .any, .any, .any, .any, .any, .any, .any, .any, .any, .any, .any, .any, .any, .any, .any, .any, .any, .any, .any, .any, .any, .any, .any, .any, .any, .any, .any, .any, .any, .any, .any, .any, .any, .any, .any, .any, .any, .any, .any, .any, .any, .any, .any, .any, .any, .any, .any, .any, .any, .any, .any, .any, .any, .any, .any, .any, .any, .any, .any, .any, .any, .any, .any, .any, .any, .any, .any, .any, .any, .any, .any, .any, .any, .any, .any, .any, .any, .any, .any, .any, .any, .any, .any, .any, .any, .any, .any, .any, .any, .any, .any, .any, .any, .any, .any, .any, .any, .any, .any, .any, .any, .any, .any, .any, .any, .any, .any, .any, .any, .any, .any, .any, .any, .any, .any, .any, .any, .any, .any, .any, .any, .any, .any, .any, .any, .any, .any, .any, .any, .any, .any, .any, .any, .any, .any, .any], [.ex false [.c (.os 1 0 0 1 t3.1 none)] 58, .ex false [.row t3.2.1 (.int .i64) t.1] 3], 0⟩
  | .inr t => fun e s => e = .ret ∧ s = ⟨[.any, .any, .any, .any, .v (.one (.sc (.bool false))), .any, .any, .any, .any, .any, .any, .any, .any, .any, .any, .any, .any, .any, .any, .any, .any, .any, .any, .any, .any, .any, .any, .any, .any, .any, .any, .any, .any, .any, .any, .any, .any, .any, .any, .any, .any, .any, .any, .any, .any, .any, .any, .any, .any, .any, .any, .any, .any, .any, .any, .any, .any, .any, .any, .any, .any, .any, .any, .any, .any, .any, .any, .any, .any, .any, .any, .any, .any, .any, .any, .any, .any, .any, .any, .any, .any, .any, .any, .any, .any, .any, .any, .any, .any, .any, .any, .any, .any, .any, .any, .any, .any, .any, .any, .any, .any, .any, .any, .any, .any, .any, .any, .any, .any, .any, .any, .any, .any, .any, .any, .any, .any, .any, .any, .any, .any, .any, .any, .any, .any, .any, .any, .any, .any, .any, .any, .any, .any, .any, .any, .any, .any, .any, .any, .any, .any, .any, .any, .any, .any, .any, .any, .any, .any, .any, .any, .any, .any, .any, .any, .any, .any, .any, .any, .any, .any, .any, .any, .any, .any, .any, .any, .any, .any], [.ex false [.c (.os 1 0 0 1 t3.1 none)] 58, .ex false [.row t3.2.1 (.int .i64) t] 3], 0⟩
theorem halterlaw04_FramesCount.j1_ok (t3 : Nat × Nat × (List Int)) (x93 : List Int) (x94 : Int) (x95 : Int) (t188 : Int) (a0 : Int) (a1 : (List (Int × Int))) (r : ((List Int) × Int) ⊕ ((List Int))) (h : halterlaw04_FramesCount.j1 t3 x93 x94 x95 t188 a0 a1 = some r) : Trip cfg (cpath (Tryd.f4.body.getD .skip) [1, 1, 1, 1, 1, 0, 1, 0, 0, 1, 0, 0, 1, 1, 0, 1]) (halterlaw04_FramesCount.j1_S t3 x93 x94 x95 t188 a0 a1) (halterlaw04_FramesCount.j1_Q t3 x93 x94 x95 t188 a0 a1 r) := by
  unfold halterlaw04_FramesCount.j1 at h
  refine Trip.of_run cfg_ok (k := (.br (.one true (.callR true [] [0, 1] (Int × (Option Int) × (List Int)) (fun t254 => (frames_Frames_Alloc.R t254)) (fun t254 => (frames_Frames_Alloc.B t3.1 t3.2.1 x93 t254)) (fun t254 => (.br (.one true (.one true (.one true (.one true (.one true (.adj [] (.adj [.keep [4], .drop 2] .nil))))))) (.one false (.one false (.br (.one true (.one true (.callR true [] [0, 1] (Int) (fun t257 => (frames_Frames_Refs.R t257)) (fun t257 => (frames_Frames_Refs.B t254.1 t3.1 t3.2.1 (z2 t254) t257)) (fun t257 => (.one true (.one true (.br (.one true (.one true (.one true (.one true (.one true (.one true (.one false (.one true (.one false (.one true (.adj [] (.adj [.keep [4], .drop 2] .nil)))))))))))) (.one false (.callR true [] [0, 1] (Int) (fun t259 => (frames_Frames_Free.R t259)) (fun t259 => (frames_Frames_Free.B t3.1 t3.2.1 (z2 t254) t259)) (fun t259 => (.one false (.one false (.one false (.one true (.one false (.one false (.one true (.one false (.br (.adj [] (.adj [.keep [4], .drop 2] .nil)) (.adj [] (.adj [] (.adj [] (.adj [.keep [1, 5, 6, 8, 9, 12, 13, 14]] (.alt (.sub (Unit) (fun _ => (.exit 3)) (fun t271 => ⟨[.any, .v (.one (.fs (.pair (.int .i64) (.int .i64)) a1 false)), .any, .any, .any, .v (.one (.sc (.int .i64 (IntKind.wrap .i64 ((1 : Int) + (IntKind.wrap .i64 ((Int.tmod (IntKind.wrap .u64 (a0)) (12 : Int))))))))), .v (.one (.ptr 0 ⟨0, 0, 0, 0⟩)), .any, .v (.one (.sc (.int .i64 x94))), .v (.one (.sc (.int .i64 x95))), .any, .any, .any, .v (.one (.err t254.2.1)), .any, .any, .any, .any, .any, .any, .any, .any, .any, .any, .any, .any, .any, .any, .any, .any, .any, .any, .any, .any, .any, .any, .any, .any, .any, .any, .any, .any, .any, .any, .any, .any, .any, .any, .any, .any, .any, .any, .any, .any, .any, .any, .any, .any, .any, .any, .any, .any, .any, .any, .any, .any, .any, .any, .any, .any, .any, .any, .any, .any, .any, .any, .any, .any, .any, .any, .any, .any, .any, .any, .any, .any, .any, .any, .any, .any, .any, .any, .any, .any, .any, .any, .any, .any, .any, .any, .any, .any, .any, .any, .any, .any, .any, .any, .any, .any, .any, .any, .any, .any, .any, .any, .any, .any, .any, .any, .any, .any, .any, .any, .any, .any, .any, .any, .any, .any, .any, .any, .any, .any, .any, .any, .any, .any, .any, .any, .any, .any, .any, .any, .any, .any, .any, .any, .any, .any, .any, .any, .any, .any, .any, .any, .any, .any, .any, .any, .any, .any, .any, .any, .any, .any, .any, .any, .any], [.ex false [.c (.os 1 0 0 1 t3.1 none)] 58, .ex false [.row t3.2.1 (.int .i64) (z2 t254)] 3], 0⟩) (fun t271 => (.br (.adj [] (.adj [.keep [1, 5, 6, 8, 9], .drop 2] .nil)) (.adj [] (.adj [.keep [1, 5, 6, 8, 9], .drop 2] .nil))))) (.sub (Unit) (fun _ => .ret) (fun t273 => ⟨[.any, .any, .any, .any, .v (.one (.sc (.bool false))), .any, .any, .any, .any, .any, .any, .any, .any, .any, .any, .any, .any, .any, .any, .any, .any, .any, .any, .any, .any, .any, .any, .any, .any, .any, .any, .any, .any, .any, .any, .any, .any, .any, .any, .any, .any, .any, .any, .any, .any, .any, .any, .any, .any, .any, .any, .any, .any, .any, .any, .any, .any, .any, .any, .any, .any, .any, .any, .any, .any, .any, .any, .any, .any, .any, .any, .any, .any, .any, .any, .any, .any, .any, .any, .any, .any, .any, .any, .any, .any, .any, .any, .any, .any, .any, .any, .any, .any, .any, .any, .any, .any, .any, .any, .any, .any, .any, .any, .any, .any, .any, .any, .any, .any, .any, .any, .any, .any, .any, .any, .any, .any, .any, .any, .any, .any, .any, .any, .any, .any, .any, .any, .any, .any, .any, .any, .any, .any, .any, .any, .any, .any, .any, .any, .any, .any, .any, .any, .any, .any, .any, .any, .any, .any, .any, .any, .any, .any, .any, .any, .any, .any, .any, .any, .any, .any, .any, .any, .any, .any, .any, .any, .any, .any], [.ex false [.c (.os 1 0 0 1 t3.1 none)] 58, .ex false [.row t3.2.1 (.int .i64) (z2 t254)] 3], 0⟩) (fun t273 => .nil)))))))))))))))))))))))))) (.one false (.one false (.one false (.one false (.one false (.one false (.one false (.one false (.one false (.adj [] (.adj [] (.adj [] (.adj [.keep [1, 5, 6, 8, 9, 12, 13, 14]] (.alt (.sub (Unit) (fun _ => (.exit 3)) (fun t284 => ⟨[.any, .v (.one (.fs (.pair (.int .i64) (.int .i64)) a1 false)), .any, .any, .any, .v (.one (.sc (.int .i64 (IntKind.wrap .i64 ((1 : Int) + (IntKind.wrap .i64 ((Int.tmod (IntKind.wrap .u64 (a0)) (12 : Int))))))))), .v (.one (.ptr 0 ⟨0, 0, 0, 0⟩)), .any, .v (.one (.sc (.int .i64 x94))), .v (.one (.sc (.int .i64 x95))), .any, .any, .any, .v (.one (.err t254.2.1)), .any, .any, .any, .any, .any, .any, .any, .any, .any, .any, .any, .any, .any, .any, .any, .any, .any, .any, .any, .any, .any, .any, .any, .any, .any, .any, .any, .any, .any, .any, .any, .any, .any, .any, .any, .any, .any, .any, .any, .any, .any, .any, .any, .any, .any, .any, .any, .any, .any, .any, .any, .any, .any, .any, .any, .any, .any, .any, .any, .any, .any, .any, .any, .any, .any, .any, .any, .any, .any, .any, .any, .any, .any, .any, .any, .any, .any, .any, .any, .any, .any, .any, .any, .any, .any, .any, .any, .any, .any, .any, .any, .any, .any, .any, .any, .any, .any, .any, .any, .any, .any, .any, .any, .any, .any, .any, .any, .any, .any, .any, .any, .any, .any, .any, .any, .any, .any, .any, .any, .any, .any, .any, .any, .any, .any, .any, .any, .any, .any, .any, .any, .any, .any, .any, .any, .any, .any, .any, .any, .any, .any, .any, .any, .any, .any, .any, .any, .any, .any, .any, .any, .any, .any, .any, .any], [.ex false [.c (.os 1 0 0 1 t3.1 none)] 58, .ex false [.row t3.2.1 (.int .i64) (z2 t254)] 3], 0⟩) (fun t284 => (.br (.adj [] (.adj [.keep [1, 5, 6, 8, 9], .drop 2] .nil)) (.adj [] (.adj [.keep [1, 5, 6, 8, 9], .drop 2] .nil))))) (.sub (Unit) (fun _ => .ret) (fun t286 => ⟨[.any, .any, .any, .any, .v (.one (.sc (.bool false))), .any, .any, .any, .any, .any, .any, .any, .any, .any, .any, .any, .any, .any, .any, .any, .any, .any, .any, .any, .any, .any, .any, .any, .any, .any, .any, .any, .any, .any, .any, .any, .any, .any, .any, .any, .any, .any, .any, .any, .any, .any, .any, .any, .any, .any, .any, .any, .any, .any, .any, .any, .any, .any, .any, .any, .any, .any, .any, .any, .any, .any, .any, .any, .any, .any, .any, .any, .any, .any, .any, .any, .any, .any, .any, .any, .any, .any, .any, .any, .any, .any, .any, .any, .any, .any, .any, .any, .any, .any, .any, .any, .any, .any, .any, .any, .any, .any, .any, .any, .any, .any, .any, .any, .any, .any, .any, .any, .any, .any, .any, .any, .any, .any, .any, .any, .any, .any, .any, .any, .any, .any, .any, .any, .any, .any, .any, .any, .any, .any, .any, .any, .any, .any, .any, .any, .any, .any, .any, .any, .any, .any, .any, .any, .any, .any, .any, .any, .any, .any, .any, .any, .any, .any, .any, .any, .any, .any, .any, .any, .any, .any, .any, .any, .any], [.ex false [.c (.os 1 0 0 1 t3.1 none)] 58, .ex false [.row t3.2.1 (.int .i64) (z2 t254)] 3], 0⟩) (fun t286 => .nil))))))))))))))))))))))) (.br (.callR true [] [0, 1] (Int × (Option Int) × (List Int)) (fun t288 => (frames_Frames_Alloc.R t288)) (fun t288 => (frames_Frames_Alloc.B t3.1 t3.2.1 x93 t288)) (fun t288 => (.br (.one true (.one true (.one true (.one true (.one true (.adj [] (.adj [.keep [4], .drop 2] .nil))))))) (.one false (.one false (.br (.one true (.one true (.callR true [] [0, 1] (Int) (fun t291 => (frames_Frames_Refs.R t291)) (fun t291 => (frames_Frames_Refs.B t288.1 t3.1 t3.2.1 (z2 t288) t291)) (fun t291 => (.one true (.one true (.br (.one true (.one true (.one true (.one true (.one true (.one true (.one false (.one true (.one false (.one true (.adj [] (.adj [.keep [4], .drop 2] .nil)))))))))))) (.one false (.callR true [] [0, 1] (Int) (fun t293 => (frames_Frames_Free.R t293)) (fun t293 => (frames_Frames_Free.B t3.1 t3.2.1 (z2 t288) t293)) (fun t293 => (.one false (.one false (.one false (.one true (.one false (.one false (.one true (.one false (.br (.adj [] (.adj [.keep [4], .drop 2] .nil)) (.adj [] (.adj [] (.adj [] (.adj [.keep [1, 5, 6, 8, 9, 12, 13, 14]] (.alt (.sub (Unit) (fun _ => (.exit 3)) (fun t305 => ⟨[.any, .v (.one (.fs (.pair (.int .i64) (.int .i64)) a1 false)), .any, .any, .any, .v (.one (.sc (.int .i64 (IntKind.wrap .i64 ((1 : Int) + (IntKind.wrap .i64 ((Int.tmod (IntKind.wrap .u64 (a0)) (12 : Int))))))))), .v (.one (.ptr 0 ⟨0, 0, 0, 0⟩)), .any, .v (.one (.sc (.int .i64 x94))), .v (.one (.sc (.int .i64 x95))), .any, .any, .any, .v (.one (.err t288.2.1)), .any, .any, .any, .any, .any, .any, .any, .any, .any, .any, .any, .any, .any, .any, .any, .any, .any, .any, .any, .any, .any, .any, .any, .any, .any, .any, .any, .any, .any, .any, .any, .any, .any, .any, .any, .any, .any, .any, .any, .any, .any, .any, .any, .any, .any, .any, .any, .any, .any, .any, .any, .any, .any, .any, .any, .any, .any, .any, .any, .any, .any, .any, .any, .any, .any, .any, .any, .any, .any, .any, .any, .any, .any, .any, .any, .any, .any, .any, .any, .any, .any, .any, .any, .any, .any, .any, .any, .any, .any, .any, .any, .any, .any, .any, .any, .any, .any, .any, .any, .any, .any, .any, .any, .any, .any, .any, .any, .any, .any, .any, .any, .any, .any, .any, .any, .any, .any, .any, .any, .any, .any, .any, .any, .any, .any, .any, .any, .any, .any, .any, .any, .any, .any, .any, .any, .any, .any, .any, .any, .any, .any, .any, .any, .any, .any, .any, .any, .any, .any, .any, .any, .any, .any, .any, .any], [.ex false [.c (.os 1 0 0 1 t3.1 none)] 58, .ex false [.row t3.2.1 (.int .i64) (z2 t288)] 3], 0⟩) (fun t305 => (.br (.adj [] (.adj [.keep [1, 5, 6, 8, 9], .drop 2] .nil)) (.adj [] (.adj [.keep [1, 5, 6, 8, 9], .drop 2] .nil))))) (.sub (Unit) (fun _ => .ret) (fun t307 => ⟨[.any, .any, .any, .any, .v (.one (.sc (.bool false))), .any, .any, .any, .any, .any, .any, .any, .any, .any, .any, .any, .any, .any, .any, .any, .any, .any, .any, .any, .any, .any, .any, .any, .any, .any, .any, .any, .any, .any, .any, .any, .any, .any, .any, .any, .any, .any, .any, .any, .any, .any, .any, .any, .any, .any, .any, .any, .any, .any, .any, .any, .any, .any, .any, .any, .any, .any, .any, .any, .any, .any, .any, .any, .any, .any, .any, .any, .any, .any, .any, .any, .any, .any, .any, .any, .any, .any, .any, .any, .any, .any, .any, .any, .any, .any, .any, .any, .any, .any, .any, .any, .any, .any, .any, .any, .any, .any, .any, .any, .any, .any, .any, .any, .any, .any, .any, .any, .any, .any, .any, .any, .any, .any, .any, .any, .any, .any, .any, .any, .any, .any, .any, .any, .any, .any, .any, .any, .any, .any, .any, .any, .any, .any, .any, .any, .any, .any, .any, .any, .any, .any, .any, .any, .any, .any, .any, .any, .any, .any, .any, .any, .any, .any, .any, .any, .any, .any, .any, .any, .any, .any, .any, .any, .any], [.ex false [.c (.os 1 0 0 1 t3.1 none)] 58, .ex false [.row t3.2.1 (.int .i64) (z2 t288)] 3], 0⟩) (fun t307 => .nil)))))))))))))))))))))))))) (.one false (.one false (.one false (.one false (.one false (.one false (.one false (.one false (.one false (.adj [] (.adj [] (.adj [] (.adj [.keep [1, 5, 6, 8, 9, 12, 13, 14]] (.alt (.sub (Unit) (fun _ => (.exit 3)) (fun t318 => ⟨[.any, .v (.one (.fs (.pair (.int .i64) (.int .i64)) a1 false)), .any, .any, .any, .v (.one (.sc (.int .i64 (IntKind.wrap .i64 ((1 : Int) + (IntKind.wrap .i64 ((Int.tmod (IntKind.wrap .u64 (a0)) (12 : Int))))))))), .v (.one (.ptr 0 ⟨0, 0, 0, 0⟩)), .any, .v (.one (.sc (.int .i64 x94))), .v (.one (.sc (.int .i64 x95))), .any, .any, .any, .v (.one (.err t288.2.1)), .any, .any, .any, .any, .any, .any, .any, .any, .any, .any, .any, .any, .any, .any, .any, .any, .any, .any, .any, .any, .any, .any, .any, .any, .any, .any, .any, .any, .any, .any, .any, .any, .any, .any, .any, .any, .any, .any, .any, .any, .any, .any, .any, .any, .any, .any, .any, .any, .any, .any, .any, .any, .any, .any, .any, .any, .any, .any, .any, .any, .any, .any, .any, .any, .any, .any, .any, .any, .any, .any, .any, .any, .any, .any, .any, .any, .any, .any, .any, .any, .any, .any, .any, .any, .any, .any, .any, .any, .any, .any, .any, .any, .any, .any, .any, .any, .any, .any, .any, .any, .any, .any, .any, .any, .any, .any, .any, .any, .any, .any, .any, .any, .any, .any, .any, .any, .any, .any, .any, .any, .any, .any, .any, .any, .any, .any, .any, .any, .any, .any, .any, .any, .any, .any, .any, .any, .any, .any, .any, .any, .any, .any, .any, .any, .any, .any, .any, .any, .any, .any, .any, .any, .any, .any, .any], [.ex false [.c (.os 1 0 0 1 t3.1 none)] 58, .ex false [.row t3.2.1 (.int .i64) (z2 t288)] 3], 0⟩) (fun t318 => (.br (.adj [] (.adj [.keep [1, 5, 6, 8, 9], .drop 2] .nil)) (.adj [] (.adj [.keep [1, 5, 6, 8, 9], .drop 2] .nil))))) (.sub (Unit) (fun _ => .ret) (fun t320 => ⟨[.any, .any, .any, .any, .v (.one (.sc (.bool false))), .any, .any, .any, .any, .any, .any, .any, .any, .any, .any, .any, .any, .any, .any, .any, .any, .any, .any, .any, .any, .any, .any, .any, .any, .any, .any, .any, .any, .any, .any, .any, .any, .any, .any, .any, .any, .any, .any, .any, .any, .any, .any, .any, .any, .any, .any, .any, .any, .any, .any, .any, .any, .any, .any, .any, .any, .any, .any, .any, .any, .any, .any, .any, .any, .any, .any, .any, .any, .any, .any, .any, .any, .any, .any, .any, .any, .any, .any, .any, .any, .any, .any, .any, .any, .any, .any, .any, .any, .any, .any, .any, .any, .any, .any, .any, .any, .any, .any, .any, .any, .any, .any, .any, .any, .any, .any, .any, .any, .any, .any, .any, .any, .any, .any, .any, .any, .any, .any, .any, .any, .any, .any, .any, .any, .any, .any, .any, .any, .any, .any, .any, .any, .any, .any, .any, .any, .any, .any, .any, .any, .any, .any, .any, .any, .any, .any, .any, .any, .any, .any, .any, .any, .any, .any, .any, .any, .any, .any, .any, .any, .any, .any, .any, .any], [.ex false [.c (.os 1 0 0 1 t3.1 none)] 58, .ex false [.row t3.2.1 (.int .i64) (z2 t288)] 3], 0⟩) (fun t320 => .nil)))))))))))))))))))))) (.br (.callR true [] [0, 1] ((Option Int) × (List Int)) (fun t322 => (frames_Frames_Ref.R t322)) (fun t322 => (frames_Frames_Ref.B (IntKind.wrap .i64 ((Int.tmod (IntKind.wrap .u64 ((List.getD a1 (Int.toNat x95) ((0 : Int), (0 : Int))).2)) (IntKind.wrap .u64 ((IntKind.wrap .i64 ((1 : Int) + (IntKind.wrap .i64 ((Int.tmod (IntKind.wrap .u64 (a0)) (12 : Int))))))))))) t3.1 t3.2.1 x93 t322)) (fun t322 => (.br (.adj [] (.adj [.keep [1, 5, 6, 8, 9], .drop 2] .nil)) (.adj [] (.adj [.keep [1, 5, 6, 8, 9], .drop 2] .nil))))) (.callR true [] [0, 1] (Int) (fun t324 => (frames_Frames_Refs.R t324)) (fun t324 => (frames_Frames_Refs.B (IntKind.wrap .i64 ((Int.tmod (IntKind.wrap .u64 ((List.getD a1 (Int.toNat x95) ((0 : Int), (0 : Int))).2)) (IntKind.wrap .u64 ((IntKind.wrap .i64 ((1 : Int) + (IntKind.wrap .i64 ((Int.tmod (IntKind.wrap .u64 (a0)) (12 : Int))))))))))) t3.1 t3.2.1 x93 t324)) (fun t324 => (.callR true [] [0, 1] (Bool × (Option Int) × (List Int)) (fun t325 => (frames_Frames_Unref.R t325)) (fun t325 => (frames_Frames_Unref.B (IntKind.wrap .i64 ((Int.tmod (IntKind.wrap .u64 ((List.getD a1 (Int.toNat x95) ((0 : Int), (0 : Int))).2)) (IntKind.wrap .u64 ((IntKind.wrap .i64 ((1 : Int) + (IntKind.wrap .i64 ((Int.tmod (IntKind.wrap .u64 (a0)) (12 : Int))))))))))) t3.1 t3.2.1 x93 t325)) (fun t325 => (.br (.one true (.one true (.one true (.one true (.one true (.adj [] (.adj [.keep [4], .drop 2] .nil))))))) (.one false (.one false (.one false (.one false (.br (.adj [] (.adj [.keep [4], .drop 2] .nil)) (.br (.adj [] (.adj [.keep [1, 5, 6, 8, 9], .drop 2] .nil)) (.adj [] (.adj [.keep [1, 5, 6, 8, 9], .drop 2] .nil))))))))))))))))) (to_goal (q := (True) ∧ ((((IntKind.wrap .i64 ((Int.tmod (IntKind.wrap .u64 ((List.getD a1 (Int.toNat x95) ((0 : Int), (0 : Int))).1)) (4 : Int)))) == (0 : Int)) = true → (((IntKind.wrap .i64 ((Int.tmod (IntKind.wrap .u64 ((List.getD a1 (Int.toNat x95) ((0 : Int), (0 : Int))).1)) (4 : Int)))) == (0 : Int)) = true ∧ (∃ t254 : Int × (Option Int) × (List Int), (Fun cfg 6 [.one (.ptr 0 ⟨0, 0, 0, 0⟩)] [.ex false [.c (.os 1 0 0 1 t3.1 none)] 58, .ex false [.row t3.2.1 (.int .i64) x93] 3] (frames_Frames_Alloc.R t254) (frames_Frames_Alloc.B t3.1 t3.2.1 x93 t254) ∧ True) ∧ (True) ∧ (True) ∧ (True) ∧ (((!((Option.isNone t254.2.1) == (decide (t188 > (0 : Int))))) = false → ((!((Option.isNone t254.2.1) == (decide (t188 > (0 : Int))))) = false ∧ (True) ∧ ((!((Option.isNone t254.2.1) == (decide (t188 > (0 : Int))))) = false ∧ (((Option.isNone t254.2.1) = true → ((Option.isNone t254.2.1) = true ∧ ((Option.isNone t254.2.1) = true ∧ (∃ t257 : Int, (Fun cfg 10 [.one (.ptr 0 ⟨0, 0, 0, 0⟩), .one (.sc (.int .i64 t254.1))] [.ex false [.c (.os 1 0 0 1 t3.1 none)] 58, .ex false [.row t3.2.1 (.int .i64) (z2 t254)] 3] (frames_Frames_Refs.R t257) (frames_Frames_Refs.B t254.1 t3.1 t3.2.1 (z2 t254) t257) ∧ True) ∧ ((Option.isNone t254.2.1) = true ∧ (True) ∧ ((Option.isNone t254.2.1) = true ∧ (((t257 != (1 : Int)) = false → ((t257 != (1 : Int)) = false ∧ (∃ t259 : Int, (Fun cfg 11 [.one (.ptr 0 ⟨0, 0, 0, 0⟩)] [.ex false [.c (.os 1 0 0 1 t3.1 none)] 58, .ex false [.row t3.2.1 (.int .i64) (z2 t254)] 3] (frames_Frames_Free.R t259) (frames_Frames_Free.B t3.1 t3.2.1 (z2 t254) t259) ∧ True) ∧ ((t257 != (1 : Int)) = false ∧ ((t257 != (1 : Int)) = false ∧ (True) ∧ ((t257 != (1 : Int)) = false ∧ (True) ∧ ((Option.isNone t254.2.1) = true ∧ ((t257 != (1 : Int)) = false ∧ ((!((Option.isNone t254.2.1) == (decide (t188 > (0 : Int))))) = false ∧ ((Option.isNone t254.2.1) = true ∧ ((!((Option.isNone t254.2.1) == (decide (t188 > (0 : Int))))) = false ∧ (((t259 != (IntKind.wrap .i64 (t188 - (1 : Int)))) = true → (True ∧ (((True) ∧ (True) ∧ True) ∧ halterlaw04_FramesCount.j1_Q t3 x93 x94 x95 t188 a0 a1 r .ret ⟨[.any, .any, .any, .any, .v (.one (.sc (.bool false))), .any, .any, .any, .any, .any, .any, .any, .any, .any, .any, .any, .any, .any, .any, .any, .any, .any, .any, .any, .any, .any, .any, .any, .any, .any, .any, .any, .any, .any, .any, .any, .any, .any, .any, .any, .any, .any, .any, .any, .any, .any, .any, .any, .any, .any, .any, .any, .any, .any, .any, .any, .any, .any, .any, .any, .any, .any, .any, .any, .any, .any, .any, .any, .any, .any, .any, .any, .any, .any, .any, .any, .any, .any, .any, .any, .any, .any, .any, .any, .any, .any, .any, .any, .any, .any, .any, .any, .any, .any, .any, .any, .any, .any, .any, .any, .any, .any, .any, .any, .any, .any, .any, .any, .any, .any, .any, .any, .any, .any, .any, .any, .any, .any, .any, .any, .any, .any, .any, .any, .any, .any, .any, .any, .any, .any, .any, .any, .any, .any, .any, .any, .any, .any, .any, .any, .any, .any, .any, .any, .any, .any, .any, .any, .any, .any, .any, .any, .any, .any, .any, .any, .any, .any, .any, .any, .any, .any, .any, .any, .any, .any, .any, .any, .any], [.ex false [.c (.os 1 0 0 1 t3.1 none)] 58, .ex false [.row t3.2.1 (.int .i64) (z2 t254)] 3], 0⟩))) ∧ ((t259 != (IntKind.wrap .i64 (t188 - (1 : Int)))) = false → (True ∧ (True ∧ (True ∧ (((True) ∧ True) ∧ ((∃ t271 : Unit, Trip cfg (.loop (cpath (Tryd.f4.body.getD .skip) [1, 1, 1, 1, 1, 0, 1, 0, 0, 1, 0, 0, 1, 1, 0, 1, 0, 1, 0, 1, 1, 0, 1, 0, 0])) ⟨[.any, .v (.one (.fs (.pair (.int .i64) (.int .i64)) a1 false)), .any, .any, .any, .v (.one (.sc (.int .i64 (IntKind.wrap .i64 ((1 : Int) + (IntKind.wrap .i64 ((Int.tmod (IntKind.wrap .u64 (a0)) (12 : Int))))))))), .v (.one (.ptr 0 ⟨0, 0, 0, 0⟩)), .any, .v (.one (.sc (.int .i64 x94))), .v (.one (.sc (.int .i64 x95))), .any, .any, .v (.one (.sc (.int .i64 t254.1))), .v (.one (.err t254.2.1)), .v (.one (.sc (.int .i64 (0 : Int)))), .any, .any, .any, .any, .any, .any, .any, .any, .any, .any, .any, .any, .any, .any, .any, .any, .any, .any, .any, .any, .any, .any, .any, .any, .any, .any, .any, .any, .any, .any, .any, .any, .any, .any, .any, .any, .any, .any, .any, .any, .any, .any, .any, .any, .any, .any, .any, .any, .any, .any, .any, .any, .any, .any, .any, .any, .any, .any, .any, .any, .any, .any, .any, .any, .any, .any, .any, .any, .any, .any, .any, .any, .any, .any, .any, .any, .any, .any, .any, .any, .any, .any, .any, .any, .any, .any, .any, .any, .any, .any, .any, .any, .any, .any, .any, .any, .any, .any, .any, .any, .any, .any, .any, .any, .any, .any, .any, .any, .any, .any, .any, .any, .any, .any, .any, .any, .any, .any, .any, .any, .any, .any, .any, .any, .any, .any, .any, .any, .any, .any, .any, .any, .any, .any, .any, .any, .any, .any, .any, .any, .any, .any, .any, .any, .any, .any, .any, .any, .any, .any, .any, .any, .any, .any], [.ex false [.c (.os 1 0 0 1 t3.1 none)] 58, .ex false [.row t3.2.1 (.int .i64) (z2 t254)] 3], 0⟩ (fun e s => e = (.exit 3) ∧ s = ⟨[.any, .v (.one (.fs (.pair (.int .i64) (.int .i64)) a1 false)), .any, .any, .any, .v (.one (.sc (.int .i64 (IntKind.wrap .i64 ((1 : Int) + (IntKind.wrap .i64 ((Int.tmod (IntKind.wrap .u64 (a0)) (12 : Int))))))))), .v (.one (.ptr 0 ⟨0, 0, 0, 0⟩)), .any, .v (.one (.sc (.int .i64 x94))), .v (.one (.sc (.int .i64 x95))), .any, .any, .any, .v (.one (.err t254.2.1)), .any, .any, .any, .any, .any, .any, .any, .any, .any, .any, .any, .any, .any, .any, .any, .any, .any, .any, .any, .any, .any, .any, .any, .any, .any, .any, .any, .any, .any, .any, .any, .any, .any, .any, .any, .any, .any, .any, .any, .any, .any, .any, .any, .any, .any, .any, .any, .any, .any, .any, .any, .any, .any, .any, .any, .any, .any, .any, .any, .any, .any, .any, .any, .any, .any, .any, .any, .any, .any, .any, .any, .any, .any, .any, .any, .any, .any, .any, .any, .any, .any, .any, .any, .any, .any, .any, .any, .any, .any, .any, .any, .any, .any, .any, .any, .any, .any, .any, .any, .any, .any, .any, .any, .any, .any, .any, .any, .any, .any, .any, .any, .any, .any, .any, .any, .any, .any, .any, .any, .any, .any, .any, .any, .any, .any, .any, .any, .any, .any, .any, .any, .any, .any, .any, .any, .any, .any, .any, .any, .any, .any, .any, .any, .any, .any, .any, .any, .any, .any, .any, .any, .any, .any, .any, .any], [.ex false [.c (.os 1 0 0 1 t3.1 none)] 58, .ex false [.row t3.2.1 (.int .i64) (z2 t254)] 3], 0⟩) ∧ (True) ∧ (((Option.isNone t254.2.1) = true → (True ∧ (True) ∧ (((True) ∧ (True) ∧ True) ∧ halterlaw04_FramesCount.j1_Q t3 x93 x94 x95 t188 a0 a1 r .normal ⟨[.any, .v (.one (.fs (.pair (.int .i64) (.int .i64)) a1 false)), .any, .any, .any, .v (.one (.sc (.int .i64 (IntKind.wrap .i64 ((1 : Int) + (IntKind.wrap .i64 ((Int.tmod (IntKind.wrap .u64 (a0)) (12 : Int))))))))), .v (.one (.ptr 0 ⟨0, 0, 0, 0⟩)), .any, .v (.one (.sc (.int .i64 (IntKind.wrap .i64 (x94 + (1 : Int)))))), .v (.one (.sc (.int .i64 x95))), .any, .any, .any, .any, .any, .any, .any, .any, .any, .any, .any, .any, .any, .any, .any, .any, .any, .any, .any, .any, .any, .any, .any, .any, .any, .any, .any, .any, .any, .any, .any, .any, .any, .any, .any, .any, .any, .any, .any, .any, .any, .any, .any, .any, .any, .any, .any, .any, .any, .any, .any, .any, .any, .any, .any, .any, .any, .any, .any, .any, .any, .any, .any, .any, .any, .any, .any, .any, .any, .any, .any, .any, .any, .any, .any, .any, .any, .any, .any, .any, .any, .any, .any, .any, .any, .any, .any, .any, .any, .any, .any, .any, .any, .any, .any, .any, .any, .any, .any, .any, .any, .any, .any, .any, .any, .any, .any, .any, .any, .any, .any, .any, .any, .any, .any, .any, .any, .any, .any, .any, .any, .any, .any, .any, .any, .any, .any, .any, .any, .any, .any, .any, .any, .any, .any, .any, .any, .any, .any, .any, .any, .any, .any, .any, .any, .any, .any, .any, .any, .any, .any, .any, .any, .any, .any, .any, .any, .any, .any], [.ex false [.c (.os 1 0 0 1 t3.1 none)] 58, .ex false [.row t3.2.1 (.int .i64) (z2 t254)] 3], 0⟩))) ∧ ((Option.isNone t254.2.1) = false → (True ∧ (((True) ∧ (True) ∧ True) ∧ halterlaw04_FramesCount.j1_Q t3 x93 x94 x95 t188 a0 a1 r .normal ⟨[.any, .v (.one (.fs (.pair (.int .i64) (.int .i64)) a1 false)), .any, .any, .any, .v (.one (.sc (.int .i64 (IntKind.wrap .i64 ((1 : Int) + (IntKind.wrap .i64 ((Int.tmod (IntKind.wrap .u64 (a0)) (12 : Int))))))))), .v (.one (.ptr 0 ⟨0, 0, 0, 0⟩)), .any, .v (.one (.sc (.int .i64 x94))), .v (.one (.sc (.int .i64 x95))), .any, .any, .any, .any, .any, .any, .any, .any, .any, .any, .any, .any, .any, .any, .any, .any, .any, .any, .any, .any, .any, .any, .any, .any, .any, .any, .any, .any, .any, .any, .any, .any, .any, .any, .any, .any, .any, .any, .any, .any, .any, .any, .any, .any, .any, .any, .any, .any, .any, .any, .any, .any, .any, .any, .any, .any, .any, .any, .any, .any, .any, .any, .any, .any, .any, .any, .any, .any, .any, .any, .any, .any, .any, .any, .any, .any, .any, .any, .any, .any, .any, .any, .any, .any, .any, .any, .any, .any, .any, .any, .any, .any, .any, .any, .any, .any, .any, .any, .any, .any, .any, .any, .any, .any, .any, .any, .any, .any, .any, .any, .any, .any, .any, .any, .any, .any, .any, .any, .any, .any, .any, .any, .any, .any, .any, .any, .any, .any, .any, .any, .any, .any, .any, .any, .any, .any, .any, .any, .any, .any, .any, .any, .any, .any, .any, .any, .any, .any, .any, .any, .any, .any, .any, .any, .any, .any, .any, .any, .any], [.ex false [.c (.os 1 0 0 1 t3.1 none)] 58, .ex false [.row t3.2.1 (.int .i64) (z2 t254)] 3], 0⟩))))) ∨ (∃ t273 : Unit, Trip cfg (.loop (cpath (Tryd.f4.body.getD .skip) [1, 1, 1, 1, 1, 0, 1, 0, 0, 1, 0, 0, 1, 1, 0, 1, 0, 1, 0, 1, 1, 0, 1, 0, 0])) ⟨[.any, .v (.one (.fs (.pair (.int .i64) (.int .i64)) a1 false)), .any, .any, .any, .v (.one (.sc (.int .i64 (IntKind.wrap .i64 ((1 : Int) + (IntKind.wrap .i64 ((Int.tmod (IntKind.wrap .u64 (a0)) (12 : Int))))))))), .v (.one (.ptr 0 ⟨0, 0, 0, 0⟩)), .any, .v (.one (.sc (.int .i64 x94))), .v (.one (.sc (.int .i64 x95))), .any, .any, .v (.one (.sc (.int .i64 t254.1))), .v (.one (.err t254.2.1)), .v (.one (.sc (.int .i64 (0 : Int)))), .any, .any, .any, .any, .any, .any, .any, .any, .any, .any, .any, .any, .any, .any, .any, .any, .any, .any, .any, .any, .any, .any, .any, .any, .any, .any, .any, .any, .any, .any, .any, .any, .any, .any, .any, .any, .any, .any, .any, .any, .any, .any, .any, .any, .any, .any, .any, .any, .any, .any, .any, .any, .any, .any, .any, .any, .any, .any, .any, .any, .any, .any, .any, .any, .any, .any, .any, .any, .any, .any, .any, .any, .any, .any, .any, .any, .any, .any, .any, .any, .any, .any, .any, .any, .any, .any, .any, .any, .any, .any, .any, .any, .any, .any, .any, .any, .any, .any, .any, .any, .any, .any, .any, .any, .any, .any, .any, .any, .any, .any, .any, .any, .any, .any, .any, .any, .any, .any, .any, .any, .any, .any, .any, .any, .any, .any, .any, .any, .any, .any, .any, .any, .any, .any, .any, .any, .any, .any, .any, .any, .any, .any, .any, .any, .any, .any, .any, .any, .any, .any, .any, .any, .any, .any], [.ex false [.c (.os 1 0 0 1 t3.1 none)] 58, .ex false [.row t3.2.1 (.int .i64) (z2 t254)] 3], 0⟩ (fun e s => e = .ret ∧ s = ⟨[.any, .any, .any, .any, .v (.one (.sc (.bool false))), .any, .any, .any, .any, .any, .any, .any, .any, .any, .any, .any, .any, .any, .any, .any, .any, .any, .any, .any, .any, .any, .any, .any, .any, .any, .any, .any, .any, .any, .any, .any, .any, .any, .any, .any, .any, .any, .any, .any, .any, .any, .any, .any, .any, .any, .any, .any, .any, .any, .any, .any, .any, .any, .any, .any, .any, .any, .any, .any, .any, .any, .any, .any, .any, .any, .any, .any, .any, .any, .any, .any, .any, .any, .any, .any, .any, .any, .any, .any, .any, .any, .any, .any, .any, .any, .any, .any, .any, .any, .any, .any, .any, .any, .any, .any, .any, .any, .any, .any, .any, .any, .any, .any, .any, .any, .any, .any, .any, .any, .any, .any, .any, .any, .any, .any, .any, .any, .any, .any, .any, .any, .any, .any, .any, .any, .any, .any, .any, .any, .any, .any, .any, .any, .any, .any, .any, .any, .any, .any, .any, .any, .any, .any, .any, .any, .any, .any, .any, .any, .any, .any, .any, .any, .any, .any, .any, .any, .any, .any, .any, .any, .any, .any, .any], [.ex false [.c (.os 1 0 0 1 t3.1 none)] 58, .ex false [.row t3.2.1 (.int .i64) (z2 t254)] 3], 0⟩) ∧ (halterlaw04_FramesCount.j1_Q t3 x93 x94 x95 t188 a0 a1 r .ret ⟨[.any, .any, .any, .any, .v (.one (.sc (.bool false))), .any, .any, .any, .any, .any, .any, .any, .any, .any, .any, .any, .any, .any, .any, .any, .any, .any, .any, .any, .any, .any, .any, .any, .any, .any, .any, .any, .any, .any, .any, .any, .any, .any, .any, .any, .any, .any, .any, .any, .any, .any, .any, .any, .any, .any, .any, .any, .any, .any, .any, .any, .any, .any, .any, .any, .any, .any, .any, .any, .any, .any, .any, .any, .any, .any, .any, .any, .any, .any, .any, .any, .any, .any, .any, .any, .any, .any, .any, .any, .any, .any, .any, .any, .any, .any, .any, .any, .any, .any, .any, .any, .any, .any, .any, .any, .any, .any, .any, .any, .any, .any, .any, .any, .any, .any, .any, .any, .any, .any, .any, .any, .any, .any, .any, .any, .any, .any, .any, .any, .any, .any, .any, .any, .any, .any, .any, .any, .any, .any, .any, .any, .any, .any, .any, .any, .any, .any, .any, .any, .any, .any, .any, .any, .any, .any, .any, .any, .any, .any, .any, .any, .any, .any, .any, .any, .any, .any, .any, .any, .any, .any, .any, .any, .any], [.ex false [.c (.os 1 0 0 1 t3.1 none)] 58, .ex false [.row t3.2.1 (.int .i64) (z2 t254)] 3], 0⟩)))))))))))))))))))) ∧ ((t257 != (1 : Int)) = true → ((t257 != (1 : Int)) = true ∧ ((t257 != (1 : Int)) = true ∧ ((t257 != (1 : Int)) = true ∧ ((t257 != (1 : Int)) = true ∧ ((Option.isNone t254.2.1) = true ∧ ((t257 != (1 : Int)) = true ∧ ((!((Option.isNone t254.2.1) == (decide (t188 > (0 : Int))))) = false ∧ ((Option.isNone t254.2.1) = true ∧ ((!((Option.isNone t254.2.1) == (decide (t188 > (0 : Int))))) = false ∧ (true = true ∧ (True ∧ (((True) ∧ (True) ∧ True) ∧ halterlaw04_FramesCount.j1_Q t3 x93 x94 x95 t188 a0 a1 r .ret ⟨[.any, .any, .any, .any, .v (.one (.sc (.bool false))), .any, .any, .any, .any, .any, .any, .any, .any, .any, .any, .any, .any, .any, .any, .any, .any, .any, .any, .any, .any, .any, .any, .any, .any, .any, .any, .any, .any, .any, .any, .any, .any, .any, .any, .any, .any, .any, .any, .any, .any, .any, .any, .any, .any, .any, .any, .any, .any, .any, .any, .any, .any, .any, .any, .any, .any, .any, .any, .any, .any, .any, .any, .any, .any, .any, .any, .any, .any, .any, .any, .any, .any, .any, .any, .any, .any, .any, .any, .any, .any, .any, .any, .any, .any, .any, .any, .any, .any, .any, .any, .any, .any, .any, .any, .any, .any, .any, .any, .any, .any, .any, .any, .any, .any, .any, .any, .any, .any, .any, .any, .any, .any, .any, .any, .any, .any, .any, .any, .any, .any, .any, .any, .any, .any, .any, .any, .any, .any, .any, .any, .any, .any, .any, .any, .any, .any, .any, .any, .any, .any, .any, .any, .any, .any, .any, .any, .any, .any, .any, .any, .any, .any, .any, .any, .any, .any, .any, .any, .any, .any, .any, .any, .any, .any], [.ex false [.c (.os 1 0 0 1 t3.1 none)] 58, .ex false [.row t3.2.1 (.int .i64) (z2 t254)] 3], 0⟩)))))))))))))))))))) ∧ ((Option.isNone t254.2.1) = false → ((Option.isNone t254.2.1) = false ∧ ((Option.isNone t254.2.1) = false ∧ ((Option.isNone t254.2.1) = false ∧ ((Option.isNone t254.2.1) = false ∧ ((Option.isNone t254.2.1) = false ∧ ((!((Option.isNone t254.2.1) == (decide (t188 > (0 : Int))))) = false ∧ ((Option.isNone t254.2.1) = false ∧ ((!((Option.isNone t254.2.1) == (decide (t188 > (0 : Int))))) = false ∧ (false = false ∧ (True ∧ (True ∧ (True ∧ (((True) ∧ True) ∧ ((∃ t284 : Unit, Trip cfg (.loop (cpath (Tryd.f4.body.getD .skip) [1, 1, 1, 1, 1, 0, 1, 0, 0, 1, 0, 0, 1, 1, 0, 1, 0, 1, 0, 1, 1, 0, 1, 0, 0])) ⟨[.any, .v (.one (.fs (.pair (.int .i64) (.int .i64)) a1 false)), .any, .any, .any, .v (.one (.sc (.int .i64 (IntKind.wrap .i64 ((1 : Int) + (IntKind.wrap .i64 ((Int.tmod (IntKind.wrap .u64 (a0)) (12 : Int))))))))), .v (.one (.ptr 0 ⟨0, 0, 0, 0⟩)), .any, .v (.one (.sc (.int .i64 x94))), .v (.one (.sc (.int .i64 x95))), .any, .any, .v (.one (.sc (.int .i64 t254.1))), .v (.one (.err t254.2.1)), .v (.one (.sc (.int .i64 (0 : Int)))), .any, .any, .any, .any, .any, .any, .any, .any, .any, .any, .any, .any, .any, .any, .any, .any, .any, .any, .any, .any, .any, .any, .any, .any, .any, .any, .any, .any, .any, .any, .any, .any, .any, .any, .any, .any, .any, .any, .any, .any, .any, .any, .any, .any, .any, .any, .any, .any, .any, .any, .any, .any, .any, .any, .any, .any, .any, .any, .any, .any, .any, .any, .any, .any, .any, .any, .any, .any, .any, .any, .any, .any, .any, .any, .any, .any, .any, .any, .any, .any, .any, .any, .any, .any, .any, .any, .any, .any, .any, .any, .any, .any, .any, .any, .any, .any, .any, .any, .any, .any, .any, .any, .any, .any, .any, .any, .any, .any, .any, .any, .any, .any, .any, .any, .any, .any, .any, .any, .any, .any, .any, .any, .any, .any, .any, .any, .any, .any, .any, .any, .any, .any, .any, .any, .any, .any, .any, .any, .any, .any, .any, .any, .any, .any, .any, .any, .any, .any, .any, .any, .any, .any, .any, .any], [.ex false [.c (.os 1 0 0 1 t3.1 none)] 58, .ex false [.row t3.2.1 (.int .i64) (z2 t254)] 3], 0⟩ (fun e s => e = (.exit 3) ∧ s = ⟨[.any, .v (.one (.fs (.pair (.int .i64) (.int .i64)) a1 false)), .any, .any, .any, .v (.one (.sc (.int .i64 (IntKind.wrap .i64 ((1 : Int) + (IntKind.wrap .i64 ((Int.tmod (IntKind.wrap .u64 (a0)) (12 : Int))))))))), .v (.one (.ptr 0 ⟨0, 0, 0, 0⟩)), .any, .v (.one (.sc (.int .i64 x94))), .v (.one (.sc (.int .i64 x95))), .any, .any, .any, .v (.one (.err t254.2.1)), .any, .any, .any, .any, .any, .any, .any, .any, .any, .any, .any, .any, .any, .any, .any, .any, .any, .any, .any, .any, .any, .any, .any, .any, .any, .any, .any, .any, .any, .any, .any, .any, .any, .any, .any, .any, .any, .any, .any, .any, .any, .any, .any, .any, .any, .any, .any, .any, .any, .any, .any, .any, .any, .any, .any, .any, .any, .any, .any, .any, .any, .any, .any, .any, .any, .any, .any, .any, .any, .any, .any, .any, .any, .any, .any, .any, .any, .any, .any, .any, .any, .any, .any, .any, .any, .any, .any, .any, .any, .any, .any, .any, .any, .any, .any, .any, .any, .any, .any, .any, .any, .any, .any, .any, .any, .any, .any, .any, .any, .any, .any, .any, .any, .any, .any, .any, .any, .any, .any, .any, .any, .any, .any, .any, .any, .any, .any, .any, .any, .any, .any, .any, .any, .any, .any, .any, .any, .any, .any, .any, .any, .any, .any, .any, .any, .any, .any, .any, .any, .any, .any, .any, .any, .any, .any], [.ex false [.c (.os 1 0 0 1 t3.1 none)] 58, .ex false [.row t3.2.1 (.int .i64) (z2 t254)] 3], 0⟩) ∧ (True) ∧ (((Option.isNone t254.2.1) = true → (True ∧ (True) ∧ (((True) ∧ (True) ∧ True) ∧ halterlaw04_FramesCount.j1_Q t3 x93 x94 x95 t188 a0 a1 r .normal ⟨[.any, .v (.one (.fs (.pair (.int .i64) (.int .i64)) a1 false)), .any, .any, .any, .v (.one (.sc (.int .i64 (IntKind.wrap .i64 ((1 : Int) + (IntKind.wrap .i64 ((Int.tmod (IntKind.wrap .u64 (a0)) (12 : Int))))))))), .v (.one (.ptr 0 ⟨0, 0, 0, 0⟩)), .any, .v (.one (.sc (.int .i64 (IntKind.wrap .i64 (x94 + (1 : Int)))))), .v (.one (.sc (.int .i64 x95))), .any, .any, .any, .any, .any, .any, .any, .any, .any, .any, .any, .any, .any, .any, .any, .any, .any, .any, .any, .any, .any, .any, .any, .any, .any, .any, .any, .any, .any, .any, .any, .any, .any, .any, .any, .any, .any, .any, .any, .any, .any, .any, .any, .any, .any, .any, .any, .any, .any, .any, .any, .any, .any, .any, .any, .any, .any, .any, .any, .any, .any, .any, .any, .any, .any, .any, .any, .any, .any, .any, .any, .any, .any, .any, .any, .any, .any, .any, .any, .any, .any, .any, .any, .any, .any, .any, .any, .any, .any, .any, .any, .any, .any, .any, .any, .any, .any, .any, .any, .any, .any, .any, .any, .any, .any, .any, .any, .any, .any, .any, .any, .any, .any, .any, .any, .any, .any, .any, .any, .any, .any, .any, .any, .any, .any, .any, .any, .any, .any, .any, .any, .any, .any, .any, .any, .any, .any, .any, .any, .any, .any, .any, .any, .any, .any, .any, .any, .any, .any, .any, .any, .any, .any, .any, .any, .any, .any, .any, .any], [.ex false [.c (.os 1 0 0 1 t3.1 none)] 58, .ex false [.row t3.2.1 (.int .i64) (z2 t254)] 3], 0⟩))) ∧ ((Option.isNone t254.2.1) = false → (True ∧ (((True) ∧ (True) ∧ True) ∧ halterlaw04_FramesCount.j1_Q t3 x93 x94 x95 t188 a0 a1 r .normal ⟨[.any, .v (.one (.fs (.pair (.int .i64) (.int .i64)) a1 false)), .any, .any, .any, .v (.one (.sc (.int .i64 (IntKind.wrap .i64 ((1 : Int) + (IntKind.wrap .i64 ((Int.tmod (IntKind.wrap .u64 (a0)) (12 : Int))))))))), .v (.one (.ptr 0 ⟨0, 0, 0, 0⟩)), .any, .v (.one (.sc (.int .i64 x94))), .v (.one (.sc (.int .i64 x95))), .any, .any, .any, .any, .any, .any, .any, .any, .any, .any, .any, .any, .any, .any, .any, .any, .any, .any, .any, .any, .any, .any, .any, .any, .any, .any, .any, .any, .any, .any, .any, .any, .any, .any, .any, .any, .any, .any, .any, .any, .any, .any, .any, .any, .any, .any, .any, .any, .any, .any, .any, .any, .any, .any, .any, .any, .any, .any, .any, .any, .any, .any, .any, .any, .any, .any, .any, .any, .any, .any, .any, .any, .any, .any, .any, .any, .any, .any, .any, .any, .any, .any, .any, .any, .any, .any, .any, .any, .any, .any, .any, .any, .any, .any, .any, .any, .any, .any, .any, .any, .any, .any, .any, .any, .any, .any, .any, .any, .any, .any, .any, .any, .any, .any, .any, .any, .any, .any, .any, .any, .any, .any, .any, .any, .any, .any, .any, .any, .any, .any, .any, .any, .any, .any, .any, .any, .any, .any, .any, .any, .any, .any, .any, .any, .any, .any, .any, .any, .any, .any, .any, .any, .any, .any, .any, .any, .any, .any, .any], [.ex false [.c (.os 1 0 0 1 t3.1 none)] 58, .ex false [.row t3.2.1 (.int .i64) (z2 t254)] 3], 0⟩))))) ∨ (∃ t286 : Unit, Trip cfg (.loop (cpath (Tryd.f4.body.getD .skip) [1, 1, 1, 1, 1, 0, 1, 0, 0, 1, 0, 0, 1, 1, 0, 1, 0, 1, 0, 1, 1, 0, 1, 0, 0])) ⟨[.any, .v (.one (.fs (.pair (.int .i64) (.int .i64)) a1 false)), .any, .any, .any, .v (.one (.sc (.int .i64 (IntKind.wrap .i64 ((1 : Int) + (IntKind.wrap .i64 ((Int.tmod (IntKind.wrap .u64 (a0)) (12 : Int))))))))), .v (.one (.ptr 0 ⟨0, 0, 0, 0⟩)), .any, .v (.one (.sc (.int .i64 x94))), .v (.one (.sc (.int .i64 x95))), .any, .any, .v (.one (.sc (.int .i64 t254.1))), .v (.one (.err t254.2.1)), .v (.one (.sc (.int .i64 (0 : Int)))), .any, .any, .any, .any, .any, .any, .any, .any, .any, .any, .any, .any, .any, .any, .any, .any, .any, .any, .any, .any, .any, .any, .any, .any, .any, .any, .any, .any, .any, .any, .any, .any, .any, .any, .any, .any, .any, .any, .any, .any, .any, .any, .any, .any, .any, .any, .any, .any, .any, .any, .any, .any, .any, .any, .any, .any, .any, .any, .any, .any, .any, .any, .any, .any, .any, .any, .any, .any, .any, .any, .any, .any, .any, .any, .any, .any, .any, .any, .any, .any, .any, .any, .any, .any, .any, .any, .any, .any, .any, .any, .any, .any, .any, .any, .any, .any, .any, .any, .any, .any, .any, .any, .any, .any, .any, .any, .any, .any, .any, .any, .any, .any, .any, .any, .any, .any, .any, .any, .any, .any, .any, .any, .any, .any, .any, .any, .any, .any, .any, .any, .any, .any, .any, .any, .any, .any, .any, .any, .any, .any, .any, .any, .any, .any, .any, .any, .any, .any, .any, .any, .any, .any, .any, .any], [.ex false [.c (.os 1 0 0 1 t3.1 none)] 58, .ex false [.row t3.2.1 (.int .i64) (z2 t254)] 3], 0⟩ (fun e s => e = .ret ∧ s = ⟨[.any, .any, .any, .any, .v (.one (.sc (.bool false))), .any, .any, .any, .any, .any, .any, .any, .any, .any, .any, .any, .any, .any, .any, .any, .any, .any, .any, .any, .any, .any, .any, .any, .any, .any, .any, .any, .any, .any, .any, .any, .any, .any, .any, .any, .any, .any, .any, .any, .any, .any, .any, .any, .any, .any, .any, .any, .any, .any, .any, .any, .any, .any, .any, .any, .any, .any, .any, .any, .any, .any, .any, .any, .any, .any, .any, .any, .any, .any, .any, .any, .any, .any, .any, .any, .any, .any, .any, .any, .any, .any, .any, .any, .any, .any, .any, .any, .any, .any, .any, .any, .any, .any, .any, .any, .any, .any, .any, .any, .any, .any, .any, .any, .any, .any, .any, .any, .any, .any, .any, .any, .any, .any, .any, .any, .any, .any, .any, .any, .any, .any, .any, .any, .any, .any, .any, .any, .any, .any, .any, .any, .any, .any, .any, .any, .any, .any, .any, .any, .any, .any, .any, .any, .any, .any, .any, .any, .any, .any, .any, .any, .any, .any, .any, .any, .any, .any, .any, .any, .any, .any, .any, .any, .any], [.ex false [.c (.os 1 0 0 1 t3.1 none)] 58, .ex false [.row t3.2.1 (.int .i64) (z2 t254)] 3], 0⟩) ∧ (halterlaw04_FramesCount.j1_Q t3 x93 x94 x95 t188 a0 a1 r .ret ⟨[.any, .any, .any, .any, .v (.one (.sc (.bool false))), .any, .any, .any, .any, .any, .any, .any, .any, .any, .any, .any, .any, .any, .any, .any, .any, .any, .any, .any, .any, .any, .any, .any, .any, .any, .any, .any, .any, .any, .any, .any, .any, .any, .any, .any, .any, .any, .any, .any, .any, .any, .any, .any, .any, .any, .any, .any, .any, .any, .any, .any, .any, .any, .any, .any, .any, .any, .any, .any, .any, .any, .any, .any, .any, .any, .any, .any, .any, .any, .any, .any, .any, .any, .any, .any, .any, .any, .any, .any, .any, .any, .any, .any, .any, .any, .any, .any, .any, .any, .any, .any, .any, .any, .any, .any, .any, .any, .any, .any, .any, .any, .any, .any, .any, .any, .any, .any, .any, .any, .any, .any, .any, .any, .any, .any, .any, .any, .any, .any, .any, .any, .any, .any, .any, .any, .any, .any, .any, .any, .any, .any, .any, .any, .any, .any, .any, .any, .any, .any, .any, .any, .any, .any, .any, .any, .any, .any, .any, .any, .any, .any, .any, .any, .any, .any, .any, .any, .any, .any, .any, .any, .any, .any, .any], [.ex false [.c (.os 1 0 0 1 t3.1 none)] 58, .ex false [.row t3.2.1 (.int .i64) (z2 t254)] 3], 0⟩))))))))))))))))))))) ∧ ((!((Option.isNone t254.2.1) == (decide (t188 > (0 : Int))))) = true → ((!((Option.isNone t254.2.1) == (decide (t188 > (0 : Int))))) = true ∧ ((!((Option.isNone t254.2.1) == (decide (t188 > (0 : Int))))) = true ∧ ((!((Option.isNone t254.2.1) == (decide (t188 > (0 : Int))))) = true ∧ ((!((Option.isNone t254.2.1) == (decide (t188 > (0 : Int))))) = true ∧ (true = true ∧ (True ∧ (((True) ∧ (True) ∧ True) ∧ halterlaw04_FramesCount.j1_Q t3 x93 x94 x95 t188 a0 a1 r .ret ⟨[.any, .any, .any, .any, .v (.one (.sc (.bool false))), .any, .any, .any, .any, .any, .any, .any, .any, .any, .any, .any, .any, .any, .any, .any, .any, .any, .any, .any, .any, .any, .any, .any, .any, .any, .any, .any, .any, .any, .any, .any, .any, .any, .any, .any, .any, .any, .any, .any, .any, .any, .any, .any, .any, .any, .any, .any, .any, .any, .any, .any, .any, .any, .any, .any, .any, .any, .any, .any, .any, .any, .any, .any, .any, .any, .any, .any, .any, .any, .any, .any, .any, .any, .any, .any, .any, .any, .any, .any, .any, .any, .any, .any, .any, .any, .any, .any, .any, .any, .any, .any, .any, .any, .any, .any, .any, .any, .any, .any, .any, .any, .any, .any, .any, .any, .any, .any, .any, .any, .any, .any, .any, .any, .any, .any, .any, .any, .any, .any, .any, .any, .any, .any, .any, .any, .any, .any, .any, .any, .any, .any, .any, .any, .any, .any, .any, .any, .any, .any, .any, .any, .any, .any, .any, .any, .any, .any, .any, .any, .any, .any, .any, .any, .any, .any, .any, .any, .any, .any, .any, .any, .any, .any, .any], [.ex false [.c (.os 1 0 0 1 t3.1 none)] 58, .ex false [.row t3.2.1 (.int .i64) (z2 t254)] 3], 0⟩)))))))))))) ∧ (((IntKind.wrap .i64 ((Int.tmod (IntKind.wrap .u64 ((List.getD a1 (Int.toNat x95) ((0 : Int), (0 : Int))).1)) (4 : Int)))) == (0 : Int)) = false → (True) ∧ ((((IntKind.wrap .i64 ((Int.tmod (IntKind.wrap .u64 ((List.getD a1 (Int.toNat x95) ((0 : Int), (0 : Int))).1)) (4 : Int)))) == (1 : Int)) = true → (∃ t288 : Int × (Option Int) × (List Int), (Fun cfg 6 [.one (.ptr 0 ⟨0, 0, 0, 0⟩)] [.ex false [.c (.os 1 0 0 1 t3.1 none)] 58, .ex false [.row t3.2.1 (.int .i64) x93] 3] (frames_Frames_Alloc.R t288) (frames_Frames_Alloc.B t3.1 t3.2.1 x93 t288) ∧ True) ∧ (True) ∧ (True) ∧ (True) ∧ (((!((Option.isNone t288.2.1) == (decide (t188 > (0 : Int))))) = false → ((!((Option.isNone t288.2.1) == (decide (t188 > (0 : Int))))) = false ∧ (True) ∧ ((!((Option.isNone t288.2.1) == (decide (t188 > (0 : Int))))) = false ∧ (((Option.isNone t288.2.1) = true → ((Option.isNone t288.2.1) = true ∧ ((Option.isNone t288.2.1) = true ∧ (∃ t291 : Int, (Fun cfg 10 [.one (.ptr 0 ⟨0, 0, 0, 0⟩), .one (.sc (.int .i64 t288.1))] [.ex false [.c (.os 1 0 0 1 t3.1 none)] 58, .ex false [.row t3.2.1 (.int .i64) (z2 t288)] 3] (frames_Frames_Refs.R t291) (frames_Frames_Refs.B t288.1 t3.1 t3.2.1 (z2 t288) t291) ∧ True) ∧ ((Option.isNone t288.2.1) = true ∧ (True) ∧ ((Option.isNone t288.2.1) = true ∧ (((t291 != (1 : Int)) = false → ((t291 != (1 : Int)) = false ∧ (∃ t293 : Int, (Fun cfg 11 [.one (.ptr 0 ⟨0, 0, 0, 0⟩)] [.ex false [.c (.os 1 0 0 1 t3.1 none)] 58, .ex false [.row t3.2.1 (.int .i64) (z2 t288)] 3] (frames_Frames_Free.R t293) (frames_Frames_Free.B t3.1 t3.2.1 (z2 t288) t293) ∧ True) ∧ ((t291 != (1 : Int)) = false ∧ ((t291 != (1 : Int)) = false ∧ (True) ∧ ((t291 != (1 : Int)) = false ∧ (True) ∧ ((Option.isNone t288.2.1) = true ∧ ((t291 != (1 : Int)) = false ∧ ((!((Option.isNone t288.2.1) == (decide (t188 > (0 : Int))))) = false ∧ ((Option.isNone t288.2.1) = true ∧ ((!((Option.isNone t288.2.1) == (decide (t188 > (0 : Int))))) = false ∧ (((t293 != (IntKind.wrap .i64 (t188 - (1 : Int)))) = true → (True ∧ (((True) ∧ (True) ∧ True) ∧ halterlaw04_FramesCount.j1_Q t3 x93 x94 x95 t188 a0 a1 r .ret ⟨[.any, .any, .any, .any, .v (.one (.sc (.bool false))), .any, .any, .any, .any, .any, .any, .any, .any, .any, .any, .any, .any, .any, .any, .any, .any, .any, .any, .any, .any, .any, .any, .any, .any, .any, .any, .any, .any, .any, .any, .any, .any, .any, .any, .any, .any, .any, .any, .any, .any, .any, .any, .any, .any, .any, .any, .any, .any, .any, .any, .any, .any, .any, .any, .any, .any, .any, .any, .any, .any, .any, .any, .any, .any, .any, .any, .any, .any, .any, .any, .any, .any, .any, .any, .any, .any, .any, .any, .any, .any, .any, .any, .any, .any, .any, .any, .any, .any, .any, .any, .any, .any, .any, .any, .any, .any, .any, .any, .any, .any, .any, .any, .any, .any, .any, .any, .any, .any, .any, .any, .any, .any, .any, .any, .any, .any, .any, .any, .any, .any, .any, .any, .any, .any, .any, .any, .any, .any, .any, .any, .any, .any, .any, .any, .any, .any, .any, .any, .any, .any, .any, .any, .any, .any, .any, .any, .any, .any, .any, .any, .any, .any, .any, .any, .any, .any, .any, .any, .any, .any, .any, .any, .any, .any], [.ex false [.c (.os 1 0 0 1 t3.1 none)] 58, .ex false [.row t3.2.1 (.int .i64) (z2 t288)] 3], 0⟩))) ∧ ((t293 != (IntKind.wrap .i64 (t188 - (1 : Int)))) = false → (True ∧ (True ∧ (True ∧ (((True) ∧ True) ∧ ((∃ t305 : Unit, Trip cfg (.loop (cpath (Tryd.f4.body.getD .skip) [1, 1, 1, 1, 1, 0, 1, 0, 0, 1, 0, 0, 1, 1, 0, 1, 0, 1, 0, 1, 1, 0, 1, 0, 0])) ⟨[.any, .v (.one (.fs (.pair (.int .i64) (.int .i64)) a1 false)), .any, .any, .any, .v (.one (.sc (.int .i64 (IntKind.wrap .i64 ((1 : Int) + (IntKind.wrap .i64 ((Int.tmod (IntKind.wrap .u64 (a0)) (12 : Int))))))))), .v (.one (.ptr 0 ⟨0, 0, 0, 0⟩)), .any, .v (.one (.sc (.int .i64 x94))), .v (.one (.sc (.int .i64 x95))), .any, .any, .v (.one (.sc (.int .i64 t288.1))), .v (.one (.err t288.2.1)), .v (.one (.sc (.int .i64 (0 : Int)))), .any, .any, .any, .any, .any, .any, .any, .any, .any, .any, .any, .any, .any, .any, .any, .any, .any, .any, .any, .any, .any, .any, .any, .any, .any, .any, .any, .any, .any, .any, .any, .any, .any, .any, .any, .any, .any, .any, .any, .any, .any, .any, .any, .any, .any, .any, .any, .any, .any, .any, .any, .any, .any, .any, .any, .any, .any, .any, .any, .any, .any, .any, .any, .any, .any, .any, .any, .any, .any, .any, .any, .any, .any, .any, .any, .any, .any, .any, .any, .any, .any, .any, .any, .any, .any, .any, .any, .any, .any, .any, .any, .any, .any, .any, .any, .any, .any, .any, .any, .any, .any, .any, .any, .any, .any, .any, .any, .any, .any, .any, .any, .any, .any, .any, .any, .any, .any, .any, .any, .any, .any, .any, .any, .any, .any, .any, .any, .any, .any, .any, .any, .any, .any, .any, .any, .any, .any, .any, .any, .any, .any, .any, .any, .any, .any, .any, .any, .any, .any, .any, .any, .any, .any, .any], [.ex false [.c (.os 1 0 0 1 t3.1 none)] 58, .ex false [.row t3.2.1 (.int .i64) (z2 t288)] 3], 0⟩ (fun e s => e = (.exit 3) ∧ s = ⟨[.any, .v (.one (.fs (.pair (.int .i64) (.int .i64)) a1 false)), .any, .any, .any, .v (.one (.sc (.int .i64 (IntKind.wrap .i64 ((1 : Int) + (IntKind.wrap .i64 ((Int.tmod (IntKind.wrap .u64 (a0)) (12 : Int))))))))), .v (.one (.ptr 0 ⟨0, 0, 0, 0⟩)), .any, .v (.one (.sc (.int .i64 x94))), .v (.one (.sc (.int .i64 x95))), .any, .any, .any, .v (.one (.err t288.2.1)), .any, .any, .any, .any, .any, .any, .any, .any, .any, .any, .any, .any, .any, .any, .any, .any, .any, .any, .any, .any, .any, .any, .any, .any, .any, .any, .any, .any, .any, .any, .any, .any, .any, .any, .any, .any, .any, .any, .any, .any, .any, .any, .any, .any, .any, .any, .any, .any, .any, .any, .any, .any, .any, .any, .any, .any, .any, .any, .any, .any, .any, .any, .any, .any, .any, .any, .any, .any, .any, .any, .any, .any, .any, .any, .any, .any, .any, .any, .any, .any, .any, .any, .any, .any, .any, .any, .any, .any, .any, .any, .any, .any, .any, .any, .any, .any, .any, .any, .any, .any, .any, .any, .any, .any, .any, .any, .any, .any, .any, .any, .any, .any, .any, .any, .any, .any, .any, .any, .any, .any, .any, .any, .any, .any, .any, .any, .any, .any, .any, .any, .any, .any, .any, .any, .any, .any, .any, .any, .any, .any, .any, .any, .any, .any, .any, .any, .any, .any, .any, .any, .any, .any, .any, .any, .any], [.ex false [.c (.os 1 0 0 1 t3.1 none)] 58, .ex false [.row t3.2.1 (.int .i64) (z2 t288)] 3], 0⟩) ∧ (True) ∧ (((Option.isNone t288.2.1) = true → (True ∧ (True) ∧ (((True) ∧ (True) ∧ True) ∧ halterlaw04_FramesCount.j1_Q t3 x93 x94 x95 t188 a0 a1 r .normal ⟨[.any, .v (.one (.fs (.pair (.int .i64) (.int .i64)) a1 false)), .any, .any, .any, .v (.one (.sc (.int .i64 (IntKind.wrap .i64 ((1 : Int) + (IntKind.wrap .i64 ((Int.tmod (IntKind.wrap .u64 (a0)) (12 : Int))))))))), .v (.one (.ptr 0 ⟨0, 0, 0, 0⟩)), .any, .v (.one (.sc (.int .i64 (IntKind.wrap .i64 (x94 + (1 : Int)))))), .v (.one (.sc (.int .i64 x95))), .any, .any, .any, .any, .any, .any, .any, .any, .any, .any, .any, .any, .any, .any, .any, .any, .any, .any, .any, .any, .any, .any, .any, .any, .any, .any, .any, .any, .any, .any, .any, .any, .any, .any, .any, .any, .any, .any, .any, .any, .any, .any, .any, .any, .any, .any, .any, .any, .any, .any, .any, .any, .any, .any, .any, .any, .any, .any, .any, .any, .any, .any, .any, .any, .any, .any, .any, .any, .any, .any, .any, .any, .any, .any, .any, .any, .any, .any, .any, .any, .any, .any, .any, .any, .any, .any, .any, .any, .any, .any, .any, .any, .any, .any, .any, .any, .any, .any, .any, .any, .any, .any, .any, .any, .any, .any, .any, .any, .any, .any, .any, .any, .any, .any, .any, .any, .any, .any, .any, .any, .any, .any, .any, .any, .any, .any, .any, .any, .any, .any, .any, .any, .any, .any, .any, .any, .any, .any, .any, .any, .any, .any, .any, .any, .any, .any, .any, .any, .any, .any, .any, .any, .any, .any, .any, .any, .any, .any, .any], [.ex false [.c (.os 1 0 0 1 t3.1 none)] 58, .ex false [.row t3.2.1 (.int .i64) (z2 t288)] 3], 0⟩))) ∧ ((Option.isNone t288.2.1) = false → (True ∧ (((True) ∧ (True) ∧ True) ∧ halterlaw04_FramesCount.j1_Q t3 x93 x94 x95 t188 a0 a1 r .normal ⟨[.any, .v (.one (.fs (.pair (.int .i64) (.int .i64)) a1 false)), .any, .any, .any, .v (.one (.sc (.int .i64 (IntKind.wrap .i64 ((1 : Int) + (IntKind.wrap .i64 ((Int.tmod (IntKind.wrap .u64 (a0)) (12 : Int))))))))), .v (.one (.ptr 0 ⟨0, 0, 0, 0⟩)), .any, .v (.one (.sc (.int .i64 x94))), .v (.one (.sc (.int .i64 x95))), .any, .any, .any, .any, .any, .any, .any, .any, .any, .any, .any, .any, .any, .any, .any, .any, .any, .any, .any, .any, .any, .any, .any, .any, .any, .any, .any, .any, .any, .any, .any, .any, .any, .any, .any, .any, .any, .any, .any, .any, .any, .any, .any, .any, .any, .any, .any, .any, .any, .any, .any, .any, .any, .any, .any, .any, .any, .any, .any, .any, .any, .any, .any, .any, .any, .any, .any, .any, .any, .any, .any, .any, .any, .any, .any, .any, .any, .any, .any, .any, .any, .any, .any, .any, .any, .any, .any, .any, .any, .any, .any, .any, .any, .any, .any, .any, .any, .any, .any, .any, .any, .any, .any, .any, .any, .any, .any, .any, .any, .any, .any, .any, .any, .any, .any, .any, .any, .any, .any, .any, .any, .any, .any, .any, .any, .any, .any, .any, .any, .any, .any, .any, .any, .any, .any, .any, .any, .any, .any, .any, .any, .any, .any, .any, .any, .any, .any, .any, .any, .any, .any, .any, .any, .any, .any, .any, .any, .any, .any], [.ex false [.c (.os 1 0 0 1 t3.1 none)] 58, .ex false [.row t3.2.1 (.int .i64) (z2 t288)] 3], 0⟩))))) ∨ (∃ t307 : Unit, Trip cfg (.loop (cpath (Tryd.f4.body.getD .skip) [1, 1, 1, 1, 1, 0, 1, 0, 0, 1, 0, 0, 1, 1, 0, 1, 0, 1, 0, 1, 1, 0, 1, 0, 0])) ⟨[.any, .v (.one (.fs (.pair (.int .i64) (.int .i64)) a1 false)), .any, .any, .any, .v (.one (.sc (.int .i64 (IntKind.wrap .i64 ((1 : Int) + (IntKind.wrap .i64 ((Int.tmod (IntKind.wrap .u64 (a0)) (12 : Int))))))))), .v (.one (.ptr 0 ⟨0, 0, 0, 0⟩)), .any, .v (.one (.sc (.int .i64 x94))), .v (.one (.sc (.int .i64 x95))), .any, .any, .v (.one (.sc (.int .i64 t288.1))), .v (.one (.err t288.2.1)), .v (.one (.sc (.int .i64 (0 : Int)))), .any, .any, .any, .any, .any, .any, .any, .any, .any, .any, .any, .any, .any, .any, .any, .any, .any, .any, .any, .any, .any, .any, .any, .any, .any, .any, .any, .any, .any, .any, .any, .any, .any, .any, .any, .any, .any, .any, .any, .any, .any, .any, .any, .any, .any, .any, .any, .any, .any, .any, .any, .any, .any, .any, .any, .any, .any, .any, .any, .any, .any, .any, .any, .any, .any, .any, .any, .any, .any, .any, .any, .any, .any, .any, .any, .any, .any, .any, .any, .any, .any, .any, .any, .any, .any, .any, .any, .any, .any, .any, .any, .any, .any, .any, .any, .any, .any, .any, .any, .any, .any, .any, .any, .any, .any, .any, .any, .any, .any, .any, .any, .any, .any, .any, .any, .any, .any, .any, .any, .any, .any, .any, .any, .any, .any, .any, .any, .any, .any, .any, .any, .any, .any, .any, .any, .any, .any, .any, .any, .any, .any, .any, .any, .any, .any, .any, .any, .any, .any, .any, .any, .any, .any, .any], [.ex false [.c (.os 1 0 0 1 t3.1 none)] 58, .ex false [.row t3.2.1 (.int .i64) (z2 t288)] 3], 0⟩ (fun e s => e = .ret ∧ s = ⟨[.any, .any, .any, .any, .v (.one (.sc (.bool false))), .any, .any, .any, .any, .any, .any, .any, .any, .any, .any, .any, .any, .any, .any, .any, .any, .any, .any, .any, .any, .any, .any, .any, .any, .any, .any, .any, .any, .any, .any, .any, .any, .any, .any, .any, .any, .any, .any, .any, .any, .any, .any, .any, .any, .any, .any, .any, .any, .any, .any, .any, .any, .any, .any, .any, .any, .any, .any, .any, .any, .any, .any, .any, .any, .any, .any, .any, .any, .any, .any, .any, .any, .any, .any, .any, .any, .any, .any, .any, .any, .any, .any, .any, .any, .any, .any, .any, .any, .any, .any, .any, .any, .any, .any, .any, .any, .any, .any, .any, .any, .any, .any, .any, .any, .any, .any, .any, .any, .any, .any, .any, .any, .any, .any, .any, .any, .any, .any, .any, .any, .any, .any, .any, .any, .any, .any, .any, .any, .any, .any, .any, .any, .any, .any, .any, .any, .any, .any, .any, .any, .any, .any, .any, .any, .any, .any, .any, .any, .any, .any, .any, .any, .any, .any, .any, .any, .any, .any, .any, .any, .any, .any, .any, .any], [.ex false [.c (.os 1 0 0 1 t3.1 none)] 58, .ex false [.row t3.2.1 (.int .i64) (z2 t288)] 3], 0⟩) ∧ (halterlaw04_FramesCount.j1_Q t3 x93 x94 x95 t188 a0 a1 r .ret ⟨[.any, .any, .any, .any, .v (.one (.sc (.bool false))), .any, .any, .any, .any, .any, .any, .any, .any, .any, .any, .any, .any, .any, .any, .any, .any, .any, .any, .any, .any, .any, .any, .any, .any, .any, .any, .any, .any, .any, .any, .any, .any, .any, .any, .any, .any, .any, .any, .any, .any, .any, .any, .any, .any, .any, .any, .any, .any, .any, .any, .any, .any, .any, .any, .any, .any, .any, .any, .any, .any, .any, .any, .any, .any, .any, .any, .any, .any, .any, .any, .any, .any, .any, .any, .any, .any, .any, .any, .any, .any, .any, .any, .any, .any, .any, .any, .any, .any, .any, .any, .any, .any, .any, .any, .any, .any, .any, .any, .any, .any, .any, .any, .any, .any, .any, .any, .any, .any, .any, .any, .any, .any, .any, .any, .any, .any, .any, .any, .any, .any, .any, .any, .any, .any, .any, .any, .any, .any, .any, .any, .any, .any, .any, .any, .any, .any, .any, .any, .any, .any, .any, .any, .any, .any, .any, .any, .any, .any, .any, .any, .any, .any, .any, .any, .any, .any, .any, .any, .any, .any, .any, .any, .any, .any], [.ex false [.c (.os 1 0 0 1 t3.1 none)] 58, .ex false [.row t3.2.1 (.int .i64) (z2 t288)] 3], 0⟩)))))))))))))))))))) ∧ ((t291 != (1 : Int)) = true → ((t291 != (1 : Int)) = true ∧ ((t291 != (1 : Int)) = true ∧ ((t291 != (1 : Int)) = true ∧ ((t291 != (1 : Int)) = true ∧ ((Option.isNone t288.2.1) = true ∧ ((t291 != (1 : Int)) = true ∧ ((!((Option.isNone t288.2.1) == (decide (t188 > (0 : Int))))) = false ∧ ((Option.isNone t288.2.1) = true ∧ ((!((Option.isNone t288.2.1) == (decide (t188 > (0 : Int))))) = false ∧ (true = true ∧ (True ∧ (((True) ∧ (True) ∧ True) ∧ halterlaw04_FramesCount.j1_Q t3 x93 x94 x95 t188 a0 a1 r .ret ⟨[.any, .any, .any, .any, .v (.one (.sc (.bool false))), .any, .any, .any, .any, .any, .any, .any, .any, .any, .any, .any, .any, .any, .any, .any, .any, .any, .any, .any, .any, .any, .any, .any, .any, .any, .any, .any, .any, .any, .any, .any, .any, .any, .any, .any, .any, .any, .any, .any, .any, .any, .any, .any, .any, .any, .any, .any, .any, .any, .any, .any, .any, .any, .any, .any, .any, .any, .any, .any, .any, .any, .any, .any, .any, .any, .any, .any, .any, .any, .any, .any, .any, .any, .any, .any, .any, .any, .any, .any, .any, .any, .any, .any, .any, .any, .any, .any, .any, .any, .any, .any, .any, .any, .any, .any, .any, .any, .any, .any, .any, .any, .any, .any, .any, .any, .any, .any, .any, .any, .any, .any, .any, .any, .any, .any, .any, .any, .any, .any, .any, .any, .any, .any, .any, .any, .any, .any, .any, .any, .any, .any, .any, .any, .any, .any, .any, .any, .any, .any, .any, .any, .any, .any, .any, .any, .any, .any, .any, .any, .any, .any, .any, .any, .any, .any, .any, .any, .any, .any, .any, .any, .any, .any, .any], [.ex false [.c (.os 1 0 0 1 t3.1 none)] 58, .ex false [.row t3.2.1 (.int .i64) (z2 t288)] 3], 0⟩)))))))))))))))))))) ∧ ((Option.isNone t288.2.1) = false → ((Option.isNone t288.2.1) = false ∧ ((Option.isNone t288.2.1) = false ∧ ((Option.isNone t288.2.1) = false ∧ ((Option.isNone t288.2.1) = false ∧ ((Option.isNone t288.2.1) = false ∧ ((!((Option.isNone t288.2.1) == (decide (t188 > (0 : Int))))) = false ∧ ((Option.isNone t288.2.1) = false ∧ ((!((Option.isNone t288.2.1) == (decide (t188 > (0 : Int))))) = false ∧ (false = false ∧ (True ∧ (True ∧ (True ∧ (((True) ∧ True) ∧ ((∃ t318 : Unit, Trip cfg (.loop (cpath (Tryd.f4.body.getD .skip) [1, 1, 1, 1, 1, 0, 1, 0, 0, 1, 0, 0, 1, 1, 0, 1, 0, 1, 0, 1, 1, 0, 1, 0, 0])) ⟨[.any, .v (.one (.fs (.pair (.int .i64) (.int .i64)) a1 false)), .any, .any, .any, .v (.one (.sc (.int .i64 (IntKind.wrap .i64 ((1 : Int) + (IntKind.wrap .i64 ((Int.tmod (IntKind.wrap .u64 (a0)) (12 : Int))))))))), .v (.one (.ptr 0 ⟨0, 0, 0, 0⟩)), .any, .v (.one (.sc (.int .i64 x94))), .v (.one (.sc (.int .i64 x95))), .any, .any, .v (.one (.sc (.int .i64 t288.1))), .v (.one (.err t288.2.1)), .v (.one (.sc (.int .i64 (0 : Int)))), .any, .any, .any, .any, .any, .any, .any, .any, .any, .any, .any, .any, .any, .any, .any, .any, .any, .any, .any, .any, .any, .any, .any, .any, .any, .any, .any, .any, .any, .any, .any, .any, .any, .any, .any, .any, .any, .any, .any, .any, .any, .any, .any, .any, .any, .any, .any, .any, .any, .any, .any, .any, .any, .any, .any, .any, .any, .any, .any, .any, .any, .any, .any, .any, .any, .any, .any, .any, .any, .any, .any, .any, .any, .any, .any, .any, .any, .any, .any, .any, .any, .any, .any, .any, .any, .any, .any, .any, .any, .any, .any, .any, .any, .any, .any, .any, .any, .any, .any, .any, .any, .any, .any, .any, .any, .any, .any, .any, .any, .any, .any, .any, .any, .any, .any, .any, .any, .any, .any, .any, .any, .any, .any, .any, .any, .any, .any, .any, .any, .any, .any, .any, .any, .any, .any, .any, .any, .any, .any, .any, .any, .any, .any, .any, .any, .any, .any, .any, .any, .any, .any, .any, .any, .any], [.ex false [.c (.os 1 0 0 1 t3.1 none)] 58, .ex false [.row t3.2.1 (.int .i64) (z2 t288)] 3], 0⟩ (fun e s => e = (.exit 3) ∧ s = ⟨[.any, .v (.one (.fs (.pair (.int .i64) (.int .i64)) a1 false)), .any, .any, .any, .v (.one (.sc (.int .i64 (IntKind.wrap .i64 ((1 : Int) + (IntKind.wrap .i64 ((Int.tmod (IntKind.wrap .u64 (a0)) (12 : Int))))))))), .v (.one (.ptr 0 ⟨0, 0, 0, 0⟩)), .any, .v (.one (.sc (.int .i64 x94))), .v (.one (.sc (.int .i64 x95))), .any, .any, .any, .v (.one (.err t288.2.1)), .any, .any, .any, .any, .any, .any, .any, .any, .any, .any, .any, .any, .any, .any, .any, .any, .any, .any, .any, .any, .any, .any, .any, .any, .any, .any, .any, .any, .any, .any, .any, .any, .any, .any, .any, .any, .any, .any, .any, .any, .any, .any, .any, .any, .any, .any, .any, .any, .any, .any, .any, .any, .any, .any, .any, .any, .any, .any, .any, .any, .any, .any, .any, .any, .any, .any, .any, .any, .any, .any, .any, .any, .any, .any, .any, .any, .any, .any, .any, .any, .any, .any, .any, .any, .any, .any, .any, .any, .any, .any, .any, .any, .any, .any, .any, .any, .any, .any, .any, .any, .any, .any, .any, .any, .any, .any, .any, .any, .any, .any, .any, .any, .any, .any, .any, .any, .any, .any, .any, .any, .any, .any, .any, .any, .any, .any, .any, .any, .any, .any, .any, .any, .any, .any, .any, .any, .any, .any, .any, .any, .any, .any, .any, .any, .any, .any, .any, .any, .any, .any, .any, .any, .any, .any, .any], [.ex false [.c (.os 1 0 0 1 t3.1 none)] 58, .ex false [.row t3.2.1 (.int .i64) (z2 t288)] 3], 0⟩) ∧ (True) ∧ (((Option.isNone t288.2.1) = true → (True ∧ (True) ∧ (((True) ∧ (True) ∧ True) ∧ halterlaw04_FramesCount.j1_Q t3 x93 x94 x95 t188 a0 a1 r .normal ⟨[.any, .v (.one (.fs (.pair (.int .i64) (.int .i64)) a1 false)), .any, .any, .any, .v (.one (.sc (.int .i64 (IntKind.wrap .i64 ((1 : Int) + (IntKind.wrap .i64 ((Int.tmod (IntKind.wrap .u64 (a0)) (12 : Int))))))))), .v (.one (.ptr 0 ⟨0, 0, 0, 0⟩)), .any, .v (.one (.sc (.int .i64 (IntKind.wrap .i64 (x94 + (1 : Int)))))), .v (.one (.sc (.int .i64 x95))), .any, .any, .any, .any, .any, .any, .any, .any, .any, .any, .any, .any, .any, .any, .any, .any, .any, .any, .any, .any, .any, .any, .any, .any, .any, .any, .any, .any, .any, .any, .any, .any, .any, .any, .any, .any, .any, .any, .any, .any, .any, .any, .any, .any, .any, .any, .any, .any, .any, .any, .any, .any, .any, .any, .any, .any, .any, .any, .any, .any, .any, .any, .any, .any, .any, .any, .any, .any, .any, .any, .any, .any, .any, .any, .any, .any, .any, .any, .any, .any, .any, .any, .any, .any, .any, .any, .any, .any, .any, .any, .any, .any, .any, .any, .any, .any, .any, .any, .any, .any, .any, .any, .any, .any, .any, .any, .any, .any, .any, .any, .any, .any, .any, .any, .any, .any, .any, .any, .any, .any, .any, .any, .any, .any, .any, .any, .any, .any, .any, .any, .any, .any, .any, .any, .any, .any, .any, .any, .any, .any, .any, .any, .any, .any, .any, .any, .any, .any, .any, .any, .any, .any, .any, .any, .any, .any, .any, .any, .any], [.ex false [.c (.os 1 0 0 1 t3.1 none)] 58, .ex false [.row t3.2.1 (.int .i64) (z2 t288)] 3], 0⟩))) ∧ ((Option.isNone t288.2.1) = false → (True ∧ (((True) ∧ (True) ∧ True) ∧ halterlaw04_FramesCount.j1_Q t3 x93 x94 x95 t188 a0 a1 r .normal ⟨[.any, .v (.one (.fs (.pair (.int .i64) (.int .i64)) a1 false)), .any, .any, .any, .v (.one (.sc (.int .i64 (IntKind.wrap .i64 ((1 : Int) + (IntKind.wrap .i64 ((Int.tmod (IntKind.wrap .u64 (a0)) (12 : Int))))))))), .v (.one (.ptr 0 ⟨0, 0, 0, 0⟩)), .any, .v (.one (.sc (.int .i64 x94))), .v (.one (.sc (.int .i64 x95))), .any, .any, .any, .any, .any, .any, .any, .any, .any, .any, .any, .any, .any, .any, .any, .any, .any, .any, .any, .any, .any, .any, .any, .any, .any, .any, .any, .any, .any, .any, .any, .any, .any, .any, .any, .any, .any, .any, .any, .any, .any, .any, .any, .any, .any, .any, .any, .any, .any, .any, .any, .any, .any, .any, .any, .any, .any, .any, .any, .any, .any, .any, .any, .any, .any, .any, .any, .any, .any, .any, .any, .any, .any, .any, .any, .any, .any, .any, .any, .any, .any, .any, .any, .any, .any, .any, .any, .any, .any, .any, .any, .any, .any, .any, .any, .any, .any, .any, .any, .any, .any, .any, .any, .any, .any, .any, .any, .any, .any, .any, .any, .any, .any, .any, .any, .any, .any, .any, .any, .any, .any, .any, .any, .any, .any, .any, .any, .any, .any, .any, .any, .any, .any, .any, .any, .any, .any, .any, .any, .any, .any, .any, .any, .any, .any, .any, .any, .any, .any, .any, .any, .any, .any, .any, .any, .any, .any, .any, .any], [.ex false [.c (.os 1 0 0 1 t3.1 none)] 58, .ex false [.row t3.2.1 (.int .i64) (z2 t288)] 3], 0⟩))))) ∨ (∃ t320 : Unit, Trip cfg (.loop (cpath (Tryd.f4.body.getD .skip) [1, 1, 1, 1, 1, 0, 1, 0, 0, 1, 0, 0, 1, 1, 0, 1, 0, 1, 0, 1, 1, 0, 1, 0, 0])) ⟨[.any, .v (.one (.fs (.pair (.int .i64) (.int .i64)) a1 false)), .any, .any, .any, .v (.one (.sc (.int .i64 (IntKind.wrap .i64 ((1 : Int) + (IntKind.wrap .i64 ((Int.tmod (IntKind.wrap .u64 (a0)) (12 : Int))))))))), .v (.one (.ptr 0 ⟨0, 0, 0, 0⟩)), .any, .v (.one (.sc (.int .i64 x94))), .v (.one (.sc (.int .i64 x95))), .any, .any, .v (.one (.sc (.int .i64 t288.1))), .v (.one (.err t288.2.1)), .v (.one (.sc (.int .i64 (0 : Int)))), .any, .any, .any, .any, .any, .any, .any, .any, .any, .any, .any, .any, .any, .any, .any, .any, .any, .any, .any, .any, .any, .any, .any, .any, .any, .any, .any, .any, .any, .any, .any, .any, .any, .any, .any, .any, .any, .any, .any, .any, .any, .any, .any, .any, .any, .any, .any, .any, .any, .any, .any, .any, .any, .any, .any, .any, .any, .any, .any, .any, .any, .any, .any, .any, .any, .any, .any, .any, .any, .any, .any, .any, .any, .any, .any, .any, .any, .any, .any, .any, .any, .any, .any, .any, .any, .any, .any, .any, .any, .any, .any, .any, .any, .any, .any, .any, .any, .any, .any, .any, .any, .any, .any, .any, .any, .any, .any, .any, .any, .any, .any, .any, .any, .any, .any, .any, .any, .any, .any, .any, .any, .any, .any, .any, .any, .any, .any, .any, .any, .any, .any, .any, .any, .any, .any, .any, .any, .any, .any, .any, .any, .any, .any, .any, .any, .any, .any, .any, .any, .any, .any, .any, .any, .any], [.ex false [.c (.os 1 0 0 1 t3.1 none)] 58, .ex false [.row t3.2.1 (.int .i64) (z2 t288)] 3], 0⟩ (fun e s => e = .ret ∧ s = ⟨[.any, .any, .any, .any, .v (.one (.sc (.bool false))), .any, .any, .any, .any, .any, .any, .any, .any, .any, .any, .any, .any, .any, .any, .any, .any, .any, .any, .any, .any, .any, .any, .any, .any, .any, .any, .any, .any, .any, .any, .any, .any, .any, .any, .any, .any, .any, .any, .any, .any, .any, .any, .any, .any, .any, .any, .any, .any, .any, .any, .any, .any, .any, .any, .any, .any, .any, .any, .any, .any, .any, .any, .any, .any, .any, .any, .any, .any, .any, .any, .any, .any, .any, .any, .any, .any, .any, .any, .any, .any, .any, .any, .any, .any, .any, .any, .any, .any, .any, .any, .any, .any, .any, .any, .any, .any, .any, .any, .any, .any, .any, .any, .any, .any, .any, .any, .any, .any, .any, .any, .any, .any, .any, .any, .any, .any, .any, .any, .any, .any, .any, .any, .any, .any, .any, .any, .any, .any, .any, .any, .any, .any, .any, .any, .any, .any, .any, .any, .any, .any, .any, .any, .any, .any, .any, .any, .any, .any, .any, .any, .any, .any, .any, .any, .any, .any, .any, .any, .any, .any, .any, .any, .any, .any], [.ex false [.c (.os 1 0 0 1 t3.1 none)] 58, .ex false [.row t3.2.1 (.int .i64) (z2 t288)] 3], 0⟩) ∧ (halterlaw04_FramesCount.j1_Q t3 x93 x94 x95 t188 a0 a1 r .ret ⟨[.any, .any, .any, .any, .v (.one (.sc (.bool false))), .any, .any, .any, .any, .any, .any, .any, .any, .any, .any, .any, .any, .any, .any, .any, .any, .any, .any, .any, .any, .any, .any, .any, .any, .any, .any, .any, .any, .any, .any, .any, .any, .any, .any, .any, .any, .any, .any, .any, .any, .any, .any, .any, .any, .any, .any, .any, .any, .any, .any, .any, .any, .any, .any, .any, .any, .any, .any, .any, .any, .any, .any, .any, .any, .any, .any, .any, .any, .any, .any, .any, .any, .any, .any, .any, .any, .any, .any, .any, .any, .any, .any, .any, .any, .any, .any, .any, .any, .any, .any, .any, .any, .any, .any, .any, .any, .any, .any, .any, .any, .any, .any, .any, .any, .any, .any, .any, .any, .any, .any, .any, .any, .any, .any, .any, .any, .any, .any, .any, .any, .any, .any, .any, .any, .any, .any, .any, .any, .any, .any, .any, .any, .any, .any, .any, .any, .any, .any, .any, .any, .any, .any, .any, .any, .any, .any, .any, .any, .any, .any, .any, .any, .any, .any, .any, .any, .any, .any, .any, .any, .any, .any, .any, .any], [.ex false [.c (.os 1 0 0 1 t3.1 none)] 58, .ex false [.row t3.2.1 (.int .i64) (z2 t288)] 3], 0⟩))))))))))))))))))))) ∧ ((!((Option.isNone t288.2.1) == (decide (t188 > (0 : Int))))) = true → ((!((Option.isNone t288.2.1) == (decide (t188 > (0 : Int))))) = true ∧ ((!((Option.isNone t288.2.1) == (decide (t188 > (0 : Int))))) = true ∧ ((!((Option.isNone t288.2.1) == (decide (t188 > (0 : Int))))) = true ∧ ((!((Option.isNone t288.2.1) == (decide (t188 > (0 : Int))))) = true ∧ (true = true ∧ (True ∧ (((True) ∧ (True) ∧ True) ∧ halterlaw04_FramesCount.j1_Q t3 x93 x94 x95 t188 a0 a1 r .ret ⟨[.any, .any, .any, .any, .v (.one (.sc (.bool false))), .any, .any, .any, .any, .any, .any, .any, .any, .any, .any, .any, .any, .any, .any, .any, .any, .any, .any, .any, .any, .any, .any, .any, .any, .any, .any, .any, .any, .any, .any, .any, .any, .any, .any, .any, .any, .any, .any, .any, .any, .any, .any, .any, .any, .any, .any, .any, .any, .any, .any, .any, .any, .any, .any, .any, .any, .any, .any, .any, .any, .any, .any, .any, .any, .any, .any, .any, .any, .any, .any, .any, .any, .any, .any, .any, .any, .any, .any, .any, .any, .any, .any, .any, .any, .any, .any, .any, .any, .any, .any, .any, .any, .any, .any, .any, .any, .any, .any, .any, .any, .any, .any, .any, .any, .any, .any, .any, .any, .any, .any, .any, .any, .any, .any, .any, .any, .any, .any, .any, .any, .any, .any, .any, .any, .any, .any, .any, .any, .any, .any, .any, .any, .any, .any, .any, .any, .any, .any, .any, .any, .any, .any, .any, .any, .any, .any, .any, .any, .any, .any, .any, .any, .any, .any, .any, .any, .any, .any, .any, .any, .any, .any, .any, .any], [.ex false [.c (.os 1 0 0 1 t3.1 none)] 58, .ex false [.row t3.2.1 (.int .i64) (z2 t288)] 3], 0⟩))))))))))) ∧ (((IntKind.wrap .i64 ((Int.tmod (IntKind.wrap .u64 ((List.getD a1 (Int.toNat x95) ((0 : Int), (0 : Int))).1)) (4 : Int)))) == (1 : Int)) = false → (True) ∧ ((((IntKind.wrap .i64 ((Int.tmod (IntKind.wrap .u64 ((List.getD a1 (Int.toNat x95) ((0 : Int), (0 : Int))).1)) (4 : Int)))) == (2 : Int)) = true → (∃ t322 : (Option Int) × (List Int), (Fun cfg 9 [.one (.ptr 0 ⟨0, 0, 0, 0⟩), .one (.sc (.int .i64 (IntKind.wrap .i64 ((Int.tmod (IntKind.wrap .u64 ((List.getD a1 (Int.toNat x95) ((0 : Int), (0 : Int))).2)) (IntKind.wrap .u64 ((IntKind.wrap .i64 ((1 : Int) + (IntKind.wrap .i64 ((Int.tmod (IntKind.wrap .u64 (a0)) (12 : Int)))))))))))))] [.ex false [.c (.os 1 0 0 1 t3.1 none)] 58, .ex false [.row t3.2.1 (.int .i64) x93] 3] (frames_Frames_Ref.R t322) (frames_Frames_Ref.B (IntKind.wrap .i64 ((Int.tmod (IntKind.wrap .u64 ((List.getD a1 (Int.toNat x95) ((0 : Int), (0 : Int))).2)) (IntKind.wrap .u64 ((IntKind.wrap .i64 ((1 : Int) + (IntKind.wrap .i64 ((Int.tmod (IntKind.wrap .u64 (a0)) (12 : Int))))))))))) t3.1 t3.2.1 x93 t322) ∧ True) ∧ (True) ∧ (((Option.isNone t322.1) = true → (True ∧ (True) ∧ (((True) ∧ (True) ∧ True) ∧ halterlaw04_FramesCount.j1_Q t3 x93 x94 x95 t188 a0 a1 r .normal ⟨[.any, .v (.one (.fs (.pair (.int .i64) (.int .i64)) a1 false)), .any, .any, .any, .v (.one (.sc (.int .i64 (IntKind.wrap .i64 ((1 : Int) + (IntKind.wrap .i64 ((Int.tmod (IntKind.wrap .u64 (a0)) (12 : Int))))))))), .v (.one (.ptr 0 ⟨0, 0, 0, 0⟩)), .any, .v (.one (.sc (.int .i64 (IntKind.wrap .i64 (x94 + (1 : Int)))))), .v (.one (.sc (.int .i64 x95))), .any, .any, .any, .any, .any, .any, .any, .any, .any, .any, .any, .any, .any, .any, .any, .any, .any, .any, .any, .any, .any, .any, .any, .any, .any, .any, .any, .any, .any, .any, .any, .any, .any, .any, .any, .any, .any, .any, .any, .any, .any, .any, .any, .any, .any, .any, .any, .any, .any, .any, .any, .any, .any, .any, .any, .any, .any, .any, .any, .any, .any, .any, .any, .any, .any, .any, .any, .any, .any, .any, .any, .any, .any, .any, .any, .any, .any, .any, .any, .any, .any, .any, .any, .any, .any, .any, .any, .any, .any, .any, .any, .any, .any, .any, .any, .any, .any, .any, .any, .any, .any, .any, .any, .any, .any, .any, .any, .any, .any, .any, .any, .any, .any, .any, .any, .any, .any, .any, .any, .any, .any, .any, .any, .any, .any, .any, .any, .any, .any, .any, .any, .any, .any, .any, .any, .any, .any, .any, .any, .any, .any, .any, .any, .any, .any, .any, .any, .any, .any, .any, .any, .any, .any, .any, .any, .any, .any, .any, .any], [.ex false [.c (.os 1 0 0 1 t3.1 none)] 58, .ex false [.row t3.2.1 (.int .i64) t322.2] 3], 0⟩))) ∧ ((Option.isNone t322.1) = false → (True ∧ (((True) ∧ (True) ∧ True) ∧ halterlaw04_FramesCount.j1_Q t3 x93 x94 x95 t188 a0 a1 r .normal ⟨[.any, .v (.one (.fs (.pair (.int .i64) (.int .i64)) a1 false)), .any, .any, .any, .v (.one (.sc (.int .i64 (IntKind.wrap .i64 ((1 : Int) + (IntKind.wrap .i64 ((Int.tmod (IntKind.wrap .u64 (a0)) (12 : Int))))))))), .v (.one (.ptr 0 ⟨0, 0, 0, 0⟩)), .any, .v (.one (.sc (.int .i64 x94))), .v (.one (.sc (.int .i64 x95))), .any, .any, .any, .any, .any, .any, .any, .any, .any, .any, .any, .any, .any, .any, .any, .any, .any, .any, .any, .any, .any, .any, .any, .any, .any, .any, .any, .any, .any, .any, .any, .any, .any, .any, .any, .any, .any, .any, .any, .any, .any, .any, .any, .any, .any, .any, .any, .any, .any, .any, .any, .any, .any, .any, .any, .any, .any, .any, .any, .any, .any, .any, .any, .any, .any, .any, .any, .any, .any, .any, .any, .any, .any, .any, .any, .any, .any, .any, .any, .any, .any, .any, .any, .any, .any, .any, .any, .any, .any, .any, .any, .any, .any, .any, .any, .any, .any, .any, .any, .any, .any, .any, .any, .any, .any, .any, .any, .any, .any, .any, .any, .any, .any, .any, .any, .any, .any, .any, .any, .any, .any, .any, .any, .any, .any, .any, .any, .any, .any, .any, .any, .any, .any, .any, .any, .any, .any, .any, .any, .any, .any, .any, .any, .any, .any, .any, .any, .any, .any, .any, .any, .any, .any, .any, .any, .any, .any, .any, .any], [.ex false [.c (.os 1 0 0 1 t3.1 none)] 58, .ex false [.row t3.2.1 (.int .i64) t322.2] 3], 0⟩)))))) ∧ (((IntKind.wrap .i64 ((Int.tmod (IntKind.wrap .u64 ((List.getD a1 (Int.toNat x95) ((0 : Int), (0 : Int))).1)) (4 : Int)))) == (2 : Int)) = false → (∃ t324 : Int, (Fun cfg 10 [.one (.ptr 0 ⟨0, 0, 0, 0⟩), .one (.sc (.int .i64 (IntKind.wrap .i64 ((Int.tmod (IntKind.wrap .u64 ((List.getD a1 (Int.toNat x95) ((0 : Int), (0 : Int))).2)) (IntKind.wrap .u64 ((IntKind.wrap .i64 ((1 : Int) + (IntKind.wrap .i64 ((Int.tmod (IntKind.wrap .u64 (a0)) (12 : Int)))))))))))))] [.ex false [.c (.os 1 0 0 1 t3.1 none)] 58, .ex false [.row t3.2.1 (.int .i64) x93] 3] (frames_Frames_Refs.R t324) (frames_Frames_Refs.B (IntKind.wrap .i64 ((Int.tmod (IntKind.wrap .u64 ((List.getD a1 (Int.toNat x95) ((0 : Int), (0 : Int))).2)) (IntKind.wrap .u64 ((IntKind.wrap .i64 ((1 : Int) + (IntKind.wrap .i64 ((Int.tmod (IntKind.wrap .u64 (a0)) (12 : Int))))))))))) t3.1 t3.2.1 x93 t324) ∧ True) ∧ (∃ t325 : Bool × (Option Int) × (List Int), (Fun cfg 7 [.one (.ptr 0 ⟨0, 0, 0, 0⟩), .one (.sc (.int .i64 (IntKind.wrap .i64 ((Int.tmod (IntKind.wrap .u64 ((List.getD a1 (Int.toNat x95) ((0 : Int), (0 : Int))).2)) (IntKind.wrap .u64 ((IntKind.wrap .i64 ((1 : Int) + (IntKind.wrap .i64 ((Int.tmod (IntKind.wrap .u64 (a0)) (12 : Int)))))))))))))] [.ex false [.c (.os 1 0 0 1 t3.1 none)] 58, .ex false [.row t3.2.1 (.int .i64) x93] 3] (frames_Frames_Unref.R t325) (frames_Frames_Unref.B (IntKind.wrap .i64 ((Int.tmod (IntKind.wrap .u64 ((List.getD a1 (Int.toNat x95) ((0 : Int), (0 : Int))).2)) (IntKind.wrap .u64 ((IntKind.wrap .i64 ((1 : Int) + (IntKind.wrap .i64 ((Int.tmod (IntKind.wrap .u64 (a0)) (12 : Int))))))))))) t3.1 t3.2.1 x93 t325) ∧ True) ∧ (True) ∧ (True) ∧ (True) ∧ (((!((Option.isNone t325.2.1) == (decide (t324 > (0 : Int))))) = false → ((!((Option.isNone t325.2.1) == (decide (t324 > (0 : Int))))) = false ∧ ((!((Option.isNone t325.2.1) == (decide (t324 > (0 : Int))))) = false ∧ (True) ∧ ((!((Option.isNone t325.2.1) == (decide (t324 > (0 : Int))))) = false ∧ (True) ∧ ((!((Option.isNone t325.2.1) == (decide (t324 > (0 : Int))))) = false ∧ (((!(t325.1 == (t324 == (1 : Int)))) = true → (True ∧ (((True) ∧ (True) ∧ True) ∧ halterlaw04_FramesCount.j1_Q t3 x93 x94 x95 t188 a0 a1 r .ret ⟨[.any, .any, .any, .any, .v (.one (.sc (.bool false))), .any, .any, .any, .any, .any, .any, .any, .any, .any, .any, .any, .any, .any, .any, .any, .any, .any, .any, .any, .any, .any, .any, .any, .any, .any, .any, .any, .any, .any, .any, .any, .any, .any, .any, .any, .any, .any, .any, .any, .any, .any, .any, .any, .any, .any, .any, .any, .any, .any, .any, .any, .any, .any, .any, .any, .any, .any, .any, .any, .any, .any, .any, .any, .any, .any, .any, .any, .any, .any, .any, .any, .any, .any, .any, .any, .any, .any, .any, .any, .any, .any, .any, .any, .any, .any, .any, .any, .any, .any, .any, .any, .any, .any, .any, .any, .any, .any, .any, .any, .any, .any, .any, .any, .any, .any, .any, .any, .any, .any, .any, .any, .any, .any, .any, .any, .any, .any, .any, .any, .any, .any, .any, .any, .any, .any, .any, .any, .any, .any, .any, .any, .any, .any, .any, .any, .any, .any, .any, .any, .any, .any, .any, .any, .any, .any, .any, .any, .any, .any, .any, .any, .any, .any, .any, .any, .any, .any, .any, .any, .any, .any, .any, .any, .any], [.ex false [.c (.os 1 0 0 1 t3.1 none)] 58, .ex false [.row t3.2.1 (.int .i64) (z2 t325)] 3], 0⟩))) ∧ ((!(t325.1 == (t324 == (1 : Int)))) = false → (True) ∧ (((Option.isNone t325.2.1) = true → (True ∧ (True) ∧ (((True) ∧ (True) ∧ True) ∧ halterlaw04_FramesCount.j1_Q t3 x93 x94 x95 t188 a0 a1 r .normal ⟨[.any, .v (.one (.fs (.pair (.int .i64) (.int .i64)) a1 false)), .any, .any, .any, .v (.one (.sc (.int .i64 (IntKind.wrap .i64 ((1 : Int) + (IntKind.wrap .i64 ((Int.tmod (IntKind.wrap .u64 (a0)) (12 : Int))))))))), .v (.one (.ptr 0 ⟨0, 0, 0, 0⟩)), .any, .v (.one (.sc (.int .i64 (IntKind.wrap .i64 (x94 - (1 : Int)))))), .v (.one (.sc (.int .i64 x95))), .any, .any, .any, .any, .any, .any, .any, .any, .any, .any, .any, .any, .any, .any, .any, .any, .any, .any, .any, .any, .any, .any, .any, .any, .any, .any, .any, .any, .any, .any, .any, .any, .any, .any, .any, .any, .any, .any, .any, .any, .any, .any, .any, .any, .any, .any, .any, .any, .any, .any, .any, .any, .any, .any, .any, .any, .any, .any, .any, .any, .any, .any, .any, .any, .any, .any, .any, .any, .any, .any, .any, .any, .any, .any, .any, .any, .any, .any, .any, .any, .any, .any, .any, .any, .any, .any, .any, .any, .any, .any, .any, .any, .any, .any, .any, .any, .any, .any, .any, .any, .any, .any, .any, .any, .any, .any, .any, .any, .any, .any, .any, .any, .any, .any, .any, .any, .any, .any, .any, .any, .any, .any, .any, .any, .any, .any, .any, .any, .any, .any, .any, .any, .any, .any, .any, .any, .any, .any, .any, .any, .any, .any, .any, .any, .any, .any, .any, .any, .any, .any, .any, .any, .any, .any, .any, .any, .any, .any, .any], [.ex false [.c (.os 1 0 0 1 t3.1 none)] 58, .ex false [.row t3.2.1 (.int .i64) (z2 t325)] 3], 0⟩))) ∧ ((Option.isNone t325.2.1) = false → (True ∧ (((True) ∧ (True) ∧ True) ∧ halterlaw04_FramesCount.j1_Q t3 x93 x94 x95 t188 a0 a1 r .normal ⟨[.any, .v (.one (.fs (.pair (.int .i64) (.int .i64)) a1 false)), .any, .any, .any, .v (.one (.sc (.int .i64 (IntKind.wrap .i64 ((1 : Int) + (IntKind.wrap .i64 ((Int.tmod (IntKind.wrap .u64 (a0)) (12 : Int))))))))), .v (.one (.ptr 0 ⟨0, 0, 0, 0⟩)), .any, .v (.one (.sc (.int .i64 x94))), .v (.one (.sc (.int .i64 x95))), .any, .any, .any, .any, .any, .any, .any, .any, .any, .any, .any, .any, .any, .any, .any, .any, .any, .any, .any, .any, .any, .any, .any, .any, .any, .any, .any, .any, .any, .any, .any, .any, .any, .any, .any, .any, .any, .any, .any, .any, .any, .any, .any, .any, .any, .any, .any, .any, .any, .any, .any, .any, .any, .any, .any, .any, .any, .any, .any, .any, .any, .any, .any, .any, .any, .any, .any, .any, .any, .any, .any, .any, .any, .any, .any, .any, .any, .any, .any, .any, .any, .any, .any, .any, .any, .any, .any, .any, .any, .any, .any, .any, .any, .any, .any, .any, .any, .any, .any, .any, .any, .any, .any, .any, .any, .any, .any, .any, .any, .any, .any, .any, .any, .any, .any, .any, .any, .any, .any, .any, .any, .any, .any, .any, .any, .any, .any, .any, .any, .any, .any, .any, .any, .any, .any, .any, .any, .any, .any, .any, .any, .any, .any, .any, .any, .any, .any, .any, .any, .any, .any, .any, .any, .any, .any, .any, .any, .any, .any], [.ex false [.c (.os 1 0 0 1 t3.1 none)] 58, .ex false [.row t3.2.1 (.int .i64) (z2 t325)] 3], 0⟩))))))))))) ∧ ((!((Option.isNone t325.2.1) == (decide (t324 > (0 : Int))))) = true → ((!((Option.isNone t325.2.1) == (decide (t324 > (0 : Int))))) = true ∧ ((!((Option.isNone t325.2.1) == (decide (t324 > (0 : Int))))) = true ∧ ((!((Option.isNone t325.2.1) == (decide (t324 > (0 : Int))))) = true ∧ ((!((Option.isNone t325.2.1) == (decide (t324 > (0 : Int))))) = true ∧ (true = true ∧ (True ∧ (((True) ∧ (True) ∧ True) ∧ halterlaw04_FramesCount.j1_Q t3 x93 x94 x95 t188 a0 a1 r .ret ⟨[.any, .any, .any, .any, .v (.one (.sc (.bool false))), .any, .any, .any, .any, .any, .any, .any, .any, .any, .any, .any, .any, .any, .any, .any, .any, .any, .any, .any, .any, .any, .any, .any, .any, .any, .any, .any, .any, .any, .any, .any, .any, .any, .any, .any, .any, .any, .any, .any, .any, .any, .any, .any, .any, .any, .any, .any, .any, .any, .any, .any, .any, .any, .any, .any, .any, .any, .any, .any, .any, .any, .any, .any, .any, .any, .any, .any, .any, .any, .any, .any, .any, .any, .any, .any, .any, .any, .any, .any, .any, .any, .any, .any, .any, .any, .any, .any, .any, .any, .any, .any, .any, .any, .any, .any, .any, .any, .any, .any, .any, .any, .any, .any, .any, .any, .any, .any, .any, .any, .any, .any, .any, .any, .any, .any, .any, .any, .any, .any, .any, .any, .any, .any, .any, .any, .any, .any, .any, .any, .any, .any, .any, .any, .any, .any, .any, .any, .any, .any, .any, .any, .any, .any, .any, .any, .any, .any, .any, .any, .any, .any, .any, .any, .any, .any, .any, .any, .any, .any, .any, .any, .any, .any, .any], [.ex false [.c (.os 1 0 0 1 t3.1 none)] 58, .ex false [.row t3.2.1 (.int .i64) (z2 t325)] 3], 0⟩)))))))))))))))))) (by kernel_rfl) ?_)
  refine ⟨trivial, ?_⟩
  refine ⟨fun b253 => ?_, fun b253 => ?_⟩
  · rw [if_pos (beq_t b253)] at h
    refine ⟨b253, ?_⟩
    obtain ⟨t254, ht254, h⟩ := of_bind h
    refine ⟨t254, ⟨frames_Frames_Alloc.fun_ ht254, trivial⟩, ?_⟩
    refine ⟨trivial, ?_⟩
    refine ⟨trivial, ?_⟩
    refine ⟨trivial, ?_⟩
    refine ⟨fun b255 => ?_, fun b255 => ?_⟩
    · rw [if_neg (not_not_intro (bb_t (not_f b255)))] at h
      refine ⟨b255, ?_⟩
      refine ⟨trivial, ?_⟩
      refine ⟨b255, ?_⟩
      refine ⟨fun b256 => ?_, fun b256 => ?_⟩
      · rw [if_pos (none_t b256)] at h
        refine ⟨b256, ?_⟩
        refine ⟨b256, ?_⟩
        obtain ⟨t257, ht257, h⟩ := of_bind h
        refine ⟨t257, ⟨frames_Frames_Refs.fun_ ht257, trivial⟩, ?_⟩
        refine ⟨b256, ?_⟩
        refine ⟨trivial, ?_⟩
        refine ⟨b256, ?_⟩
        refine ⟨fun b258 => ?_, fun b258 => ?_⟩
        · rw [if_neg (not_not_intro (bne_f b258))] at h
          refine ⟨b258, ?_⟩
          obtain ⟨t259, ht259, h⟩ := of_bind h
          refine ⟨t259, ⟨frames_Frames_Free.fun_ ht259, trivial⟩, ?_⟩
          refine ⟨b258, ?_⟩
          refine ⟨b258, ?_⟩
          refine ⟨trivial, ?_⟩
          refine ⟨b258, ?_⟩
          refine ⟨trivial, ?_⟩
          refine ⟨b256, ?_⟩
          refine ⟨b258, ?_⟩
          refine ⟨b255, ?_⟩
          refine ⟨b256, ?_⟩
          refine ⟨b255, ?_⟩
          refine ⟨fun b260 => ?_, fun b260 => ?_⟩
          · rw [if_pos (bne_t b260)] at h
            refine ⟨trivial, ?_⟩
            obtain rfl := Option.some.inj h
            exact ⟨⟨trivial, trivial, trivial⟩, rfl, rfl⟩
          · rw [if_neg (not_not_intro (bne_f b260))] at h
            refine ⟨trivial, ?_⟩
            refine ⟨trivial, ?_⟩
            refine ⟨trivial, ?_⟩
            obtain ⟨t266, ht266, h⟩ := of_bind h
            refine ⟨⟨trivial, trivial⟩, ?_⟩
            rcases t266 with t271 | t273
            · dsimp only at h
              left
              refine ⟨t271, Trip.loop FUEL (halterlaw04_FramesCount.l2_ok t3 x94 x95 t254 a0 a1 FUEL (0 : Int) (.inl t271) ht266), ?_⟩
              refine ⟨trivial, ?_⟩
              refine ⟨fun b272 => ?_, fun b272 => ?_⟩
              · rw [if_pos (none_t b272)] at h
                refine ⟨trivial, ?_⟩
                refine ⟨trivial, ?_⟩
                obtain rfl := Option.some.inj h
                exact ⟨⟨trivial, trivial, trivial⟩, rfl, rfl⟩
              · rw [if_neg (none_f b272)] at h
                refine ⟨trivial, ?_⟩
                obtain rfl := Option.some.inj h
                exact ⟨⟨trivial, trivial, trivial⟩, rfl, rfl⟩
            · dsimp only at h
              right
              refine ⟨t273, Trip.loop FUEL (halterlaw04_FramesCount.l2_ok t3 x94 x95 t254 a0 a1 FUEL (0 : Int) (.inr t273) ht266), ?_⟩
              obtain rfl := Option.some.inj h
              exact ⟨rfl, rfl⟩
        · rw [if_pos (bne_t b258)] at h
          refine ⟨b258, ?_⟩
          refine ⟨b258, ?_⟩
          refine ⟨b258, ?_⟩
          refine ⟨b258, ?_⟩
          refine ⟨b256, ?_⟩
          refine ⟨b258, ?_⟩
          refine ⟨b255, ?_⟩
          refine ⟨b256, ?_⟩
          refine ⟨b255, ?_⟩
          refine ⟨rfl, ?_⟩
          refine ⟨trivial, ?_⟩
          obtain rfl := Option.some.inj h
          exact ⟨⟨trivial, trivial, trivial⟩, rfl, rfl⟩
      · rw [if_neg (none_f b256)] at h
        refine ⟨b256, ?_⟩
        refine ⟨b256, ?_⟩
        refine ⟨b256, ?_⟩
        refine ⟨b256, ?_⟩
        refine ⟨b256, ?_⟩
        refine ⟨b255, ?_⟩
        refine ⟨b256, ?_⟩
        refine ⟨b255, ?_⟩
        refine ⟨rfl, ?_⟩
        refine ⟨trivial, ?_⟩
        refine ⟨trivial, ?_⟩
        refine ⟨trivial, ?_⟩
        obtain ⟨t279, ht279, h⟩ := of_bind h
        refine ⟨⟨trivial, trivial⟩, ?_⟩
        rcases t279 with t284 | t286
        · dsimp only at h
          left
          refine ⟨t284, Trip.loop FUEL (halterlaw04_FramesCount.l3_ok t3 x94 x95 t254 a0 a1 FUEL (0 : Int) (.inl t284) ht279), ?_⟩
          refine ⟨trivial, ?_⟩
          refine ⟨fun b285 => ?_, fun b285 => ?_⟩
          · rw [if_pos (none_t b285)] at h
            refine ⟨trivial, ?_⟩
            refine ⟨trivial, ?_⟩
            obtain rfl := Option.some.inj h
            exact ⟨⟨trivial, trivial, trivial⟩, rfl, rfl⟩
          · rw [if_neg (none_f b285)] at h
            refine ⟨trivial, ?_⟩
            obtain rfl := Option.some.inj h
            exact ⟨⟨trivial, trivial, trivial⟩, rfl, rfl⟩
        · dsimp only at h
          right
          refine ⟨t286, Trip.loop FUEL (halterlaw04_FramesCount.l3_ok t3 x94 x95 t254 a0 a1 FUEL (0 : Int) (.inr t286) ht279), ?_⟩
          obtain rfl := Option.some.inj h
          exact ⟨rfl, rfl⟩
    · rw [if_pos (bb_f (not_t b255))] at h
      refine ⟨b255, ?_⟩
      refine ⟨b255, ?_⟩
      refine ⟨b255, ?_⟩
      refine ⟨b255, ?_⟩
      refine ⟨rfl, ?_⟩
      refine ⟨trivial, ?_⟩
      obtain rfl := Option.some.inj h
      exact ⟨⟨trivial, trivial, trivial⟩, rfl, rfl⟩
  · rw [if_neg (beq_f b253)] at h
    refine ⟨trivial, ?_⟩
    refine ⟨fun b287 => ?_, fun b287 => ?_⟩
    · rw [if_pos (beq_t b287)] at h
      obtain ⟨t288, ht288, h⟩ := of_bind h
      refine ⟨t288, ⟨frames_Frames_Alloc.fun_ ht288, trivial⟩, ?_⟩
      refine ⟨trivial, ?_⟩
      refine ⟨trivial, ?_⟩
      refine ⟨trivial, ?_⟩
      refine ⟨fun b289 => ?_, fun b289 => ?_⟩
      · rw [if_neg (not_not_intro (bb_t (not_f b289)))] at h
        refine ⟨b289, ?_⟩
        refine ⟨trivial, ?_⟩
        refine ⟨b289, ?_⟩
        refine ⟨fun b290 => ?_, fun b290 => ?_⟩
        · rw [if_pos (none_t b290)] at h
          refine ⟨b290, ?_⟩
          refine ⟨b290, ?_⟩
          obtain ⟨t291, ht291, h⟩ := of_bind h
          refine ⟨t291, ⟨frames_Frames_Refs.fun_ ht291, trivial⟩, ?_⟩
          refine ⟨b290, ?_⟩
          refine ⟨trivial, ?_⟩
          refine ⟨b290, ?_⟩
          refine ⟨fun b292 => ?_, fun b292 => ?_⟩
          · rw [if_neg (not_not_intro (bne_f b292))] at h
            refine ⟨b292, ?_⟩
            obtain ⟨t293, ht293, h⟩ := of_bind h
            refine ⟨t293, ⟨frames_Frames_Free.fun_ ht293, trivial⟩, ?_⟩
            refine ⟨b292, ?_⟩
            refine ⟨b292, ?_⟩
            refine ⟨trivial, ?_⟩
            refine ⟨b292, ?_⟩
            refine ⟨trivial, ?_⟩
            refine ⟨b290, ?_⟩
            refine ⟨b292, ?_⟩
            refine ⟨b289, ?_⟩
            refine ⟨b290, ?_⟩
            refine ⟨b289, ?_⟩
            refine ⟨fun b294 => ?_, fun b294 => ?_⟩
            · rw [if_pos (bne_t b294)] at h
              refine ⟨trivial, ?_⟩
              obtain rfl := Option.some.inj h
              exact ⟨⟨trivial, trivial, trivial⟩, rfl, rfl⟩
            · rw [if_neg (not_not_intro (bne_f b294))] at h
              refine ⟨trivial, ?_⟩
              refine ⟨trivial, ?_⟩
              refine ⟨trivial, ?_⟩
              obtain ⟨t300, ht300, h⟩ := of_bind h
              refine ⟨⟨trivial, trivial⟩, ?_⟩
              rcases t300 with t305 | t307
              · dsimp only at h
                left
                refine ⟨t305, Trip.loop FUEL (halterlaw04_FramesCount.l4_ok t3 x94 x95 t288 a0 a1 FUEL (0 : Int) (.inl t305) ht300), ?_⟩
                refine ⟨trivial, ?_⟩
                refine ⟨fun b306 => ?_, fun b306 => ?_⟩
                · rw [if_pos (none_t b306)] at h
                  refine ⟨trivial, ?_⟩
                  refine ⟨trivial, ?_⟩
                  obtain rfl := Option.some.inj h
                  exact ⟨⟨trivial, trivial, trivial⟩, rfl, rfl⟩
                · rw [if_neg (none_f b306)] at h
                  refine ⟨trivial, ?_⟩
                  obtain rfl := Option.some.inj h
                  exact ⟨⟨trivial, trivial, trivial⟩, rfl, rfl⟩
              · dsimp only at h
                right
                refine ⟨t307, Trip.loop FUEL (halterlaw04_FramesCount.l4_ok t3 x94 x95 t288 a0 a1 FUEL (0 : Int) (.inr t307) ht300), ?_⟩
                obtain rfl := Option.some.inj h
                exact ⟨rfl, rfl⟩
          · rw [if_pos (bne_t b292)] at h
            refine ⟨b292, ?_⟩
            refine ⟨b292, ?_⟩
            refine ⟨b292, ?_⟩
            refine ⟨b292, ?_⟩
            refine ⟨b290, ?_⟩
            refine ⟨b292, ?_⟩
            refine ⟨b289, ?_⟩
            refine ⟨b290, ?_⟩
            refine ⟨b289, ?_⟩
            refine ⟨rfl, ?_⟩
            refine ⟨trivial, ?_⟩
            obtain rfl := Option.some.inj h
            exact ⟨⟨trivial, trivial, trivial⟩, rfl, rfl⟩
        · rw [if_neg (none_f b290)] at h
          refine ⟨b290, ?_⟩
          refine ⟨b290, ?_⟩
          refine ⟨b290, ?_⟩
          refine ⟨b290, ?_⟩
          refine ⟨b290, ?_⟩
          refine ⟨b289, ?_⟩
          refine ⟨b290, ?_⟩
          refine ⟨b289, ?_⟩
          refine ⟨rfl, ?_⟩
          refine ⟨trivial, ?_⟩
          refine ⟨trivial, ?_⟩
          refine ⟨trivial, ?_⟩
          obtain ⟨t313, ht313, h⟩ := of_bind h
          refine ⟨⟨trivial, trivial⟩, ?_⟩
          rcases t313 with t318 | t320
          · dsimp only at h
            left
            refine ⟨t318, Trip.loop FUEL (halterlaw04_FramesCount.l5_ok t3 x94 x95 t288 a0 a1 FUEL (0 : Int) (.inl t318) ht313), ?_⟩
            refine ⟨trivial, ?_⟩
            refine ⟨fun b319 => ?_, fun b319 => ?_⟩
            · rw [if_pos (none_t b319)] at h
              refine ⟨trivial, ?_⟩
              refine ⟨trivial, ?_⟩
              obtain rfl := Option.some.inj h
              exact ⟨⟨trivial, trivial, trivial⟩, rfl, rfl⟩
            · rw [if_neg (none_f b319)] at h
              refine ⟨trivial, ?_⟩
              obtain rfl := Option.some.inj h
              exact ⟨⟨trivial, trivial, trivial⟩, rfl, rfl⟩
          · dsimp only at h
            right
            refine ⟨t320, Trip.loop FUEL (halterlaw04_FramesCount.l5_ok t3 x94 x95 t288 a0 a1 FUEL (0 : Int) (.inr t320) ht313), ?_⟩
            obtain rfl := Option.some.inj h
            exact ⟨rfl, rfl⟩
      · rw [if_pos (bb_f (not_t b289))] at h
        refine ⟨b289, ?_⟩
        refine ⟨b289, ?_⟩
        refine ⟨b289, ?_⟩
        refine ⟨b289, ?_⟩
        refine ⟨rfl, ?_⟩
        refine ⟨trivial, ?_⟩
        obtain rfl := Option.some.inj h
        exact ⟨⟨trivial, trivial, trivial⟩, rfl, rfl⟩
    · rw [if_neg (beq_f b287)] at h
      refine ⟨trivial, ?_⟩
      refine ⟨fun b321 => ?_, fun b321 => ?_⟩
      · rw [if_pos (beq_t b321)] at h
        obtain ⟨t322, ht322, h⟩ := of_bind h
        refine ⟨t322, ⟨frames_Frames_Ref.fun_ ht322, trivial⟩, ?_⟩
        refine ⟨trivial, ?_⟩
        refine ⟨fun b323 => ?_, fun b323 => ?_⟩
        · rw [if_pos (none_t b323)] at h
          refine ⟨trivial, ?_⟩
          refine ⟨trivial, ?_⟩
          obtain rfl := Option.some.inj h
          exact ⟨⟨trivial, trivial, trivial⟩, rfl, rfl⟩
        · rw [if_neg (none_f b323)] at h
          refine ⟨trivial, ?_⟩
          obtain rfl := Option.some.inj h
          exact ⟨⟨trivial, trivial, trivial⟩, rfl, rfl⟩
      · rw [if_neg (beq_f b321)] at h
        obtain ⟨t324, ht324, h⟩ := of_bind h
        refine ⟨t324, ⟨frames_Frames_Refs.fun_ ht324, trivial⟩, ?_⟩
        obtain ⟨t325, ht325, h⟩ := of_bind h
        refine ⟨t325, ⟨frames_Frames_Unref.fun_ ht325, trivial⟩, ?_⟩
        refine ⟨trivial, ?_⟩
        refine ⟨trivial, ?_⟩
        refine ⟨trivial, ?_⟩
        refine ⟨fun b326 => ?_, fun b326 => ?_⟩
        · rw [if_neg (not_not_intro (bb_t (not_f b326)))] at h
          refine ⟨b326, ?_⟩
          refine ⟨b326, ?_⟩
          refine ⟨trivial, ?_⟩
          refine ⟨b326, ?_⟩
          refine ⟨trivial, ?_⟩
          refine ⟨b326, ?_⟩
          refine ⟨fun b327 => ?_, fun b327 => ?_⟩
          · rw [if_pos (bb_f (not_t b327))] at h
            refine ⟨trivial, ?_⟩
            obtain rfl := Option.some.inj h
            exact ⟨⟨trivial, trivial, trivial⟩, rfl, rfl⟩
          · rw [if_neg (not_not_intro (bb_t (not_f b327)))] at h
            refine ⟨trivial, ?_⟩
            refine ⟨fun b328 => ?_, fun b328 => ?_⟩
            · rw [if_pos (none_t b328)] at h
              refine ⟨trivial, ?_⟩
              refine ⟨trivial, ?_⟩
              obtain rfl := Option.some.inj h
              exact ⟨⟨trivial, trivial, trivial⟩, rfl, rfl⟩
            · rw [if_neg (none_f b328)] at h
              refine ⟨trivial, ?_⟩
              obtain rfl := Option.some.inj h
              exact ⟨⟨trivial, trivial, trivial⟩, rfl, rfl⟩
        · rw [if_pos (bb_f (not_t b326))] at h
          refine ⟨b326, ?_⟩
          refine ⟨b326, ?_⟩
          refine ⟨b326, ?_⟩
          refine ⟨b326, ?_⟩
          refine ⟨rfl, ?_⟩
          refine ⟨trivial, ?_⟩
          obtain rfl := Option.some.inj h
          exact ⟨⟨trivial, trivial, trivial⟩, rfl, rfl⟩
def halterlaw04_FramesCount.l6 (t3 : Nat × Nat × (List Int)) (x95 : Int) (t332 : (List Int) × Int) (a0 : Int) (a1 : (List (Int × Int))) : Nat → Int → Int → Option Int
  | 0, _, _ => none
  | n + 1, x335, x336 =>
    if x336 < (IntKind.wrap .i64 ((1 : Int) + (IntKind.wrap .i64 ((Int.tmod (IntKind.wrap .u64 (a0)) (12 : Int)))))) then
      (frames_Frames_Refs.f x336 t3.1 t3.2.1 t332.1).bind fun t342 =>
      halterlaw04_FramesCount.l6 t3 x95 t332 a0 a1 n (IntKind.wrap .i64 (x335 + t342)) (IntKind.wrap .i64 (x336 + (1 : Int)))
    else
      some x335
def halterlaw04_FramesCount.l6_S (t3 : Nat × Nat × (List Int)) (x95 : Int) (t332 : (List Int) × Int) (a0 : Int) (a1 : (List (Int × Int))) (x335 : Int) (x336 : Int) : St := ⟨[.any, .v (.one (.fs (.pair (.int .i64) (.int .i64)) a1 false)), .any, .any, .any, .v (.one (.sc (.int .i64 (IntKind.wrap .i64 ((1 : Int) + (IntKind.wrap .i64 ((Int.tmod (IntKind.wrap .u64 (a0)) (12 : Int))))))))), .v (.one (.ptr 0 ⟨0, 0, 0, 0⟩)), .any, .v (.one (.sc (.int .i64 t332.2))), .v (.one (.sc (.int .i64 x95))), .any, .any, .any, .any, .any, .any, .any, .any, .v (.one (.sc (.int .i64 x335))), .v (.one (.sc (.int .i64 x336))), .any, .any, .any, .any, .any, .any, .any, .any, .any, .any, .any, .any, .any, .any, .any, .any, .any, .any, .any, .any, .any, .any, .any, .any, .any, .any, .any, .any, .any, .any, .any, .any, .any, .any, .any, .any, .any, .any, .any, .any, .any, .any, .any, .any, .any, .any, .any, .any, .any, .any, .any, .any, .any, .any, .any, .any, .any, .any, .any, .any, .any, .any, .any, .any, .any, .any, .any, .any, .any, .any, .any, .any, .any, .any, .any, .any, .any, .any, .any, .any, .any, .any, .any, .any, .any, .any, .any, .any, .any, .any, .any, .any, .any, .any, .any, .any, .any, .any, .any, .any, .any, .any, .any, .any, .any, .any, .any, .any, .any, .any, .any, .any, .any, .any, .any, .any, .any, .any, .any, .any, .any, .any, .any, .any, .any, .any, .any, .any, .any, .any, .any, .any, .any, .any, .any, .any, .any, .any, .any, .any, .any, .any, .any, .any, .any, .any, .any, .any, .any], [.ex false [.c (.os 1 0 0 1 t3.1 none)] 58, .ex false [.row t3.2.1 (.int .i64) t332.1] 3], 0⟩
def halterlaw04_FramesCount.l6_Q (t3 : Nat × Nat × (List Int)) (x95 : Int) (t332 : (List Int) × Int) (a0 : Int) (a1 : (List (Int × Int))) (t : Int) : Exit → St → Prop := fun e s => e = (.exit 5) ∧ s = ⟨[.any, .v (.one (.fs (.pair (.int .i64) (.int .i64)) a1 false)), .any, .any, .any, .v (.one (.sc (.int .i64 (IntKind.wrap .i64 ((1 : Int) + (IntKind.wrap .i64 ((Int.tmod (IntKind.wrap .u64 (a0)) (12 : Int))))))))), .v (.one (.ptr 0 ⟨0, 0, 0, 0⟩)), .any, .v (.one (.sc (.int .i64 t332.2))), .v (.one (.sc (.int .i64 x95))), .any, .any, .any, .any, .any, .any, .any, .any, .v (.one (.sc (.int .i64 t))), .any, .any, .any, .any, .any, .any, .any, .any, .any, .any, .any, .any, .any, .any, .any, .any, .any, .any, .any, .any, .any, .any, .any, .any, .any, .any, .any, .any, .any, .any, .any, .any, .any, .any, .any, .any, .any, .any, .any, .any, .any, .any, .any, .any, .any, .any, .any, .any, .any, .any, .any, .any, .any, .any, .any, .any, .any, .any, .any, .any, .any, .any, .any, .any, .any, .any, .any, .any, .any, .any, .any, .any, .any, .any, .any, .any, .any, .any, .any, .any, .any, .any, .any, .any, .any, .any, .any, .any, .any, .any, .any, .any, .any, .any, .any, .any, .any, .any, .any, .any, .any, .any, .any, .any, .any, .any, .any, .any, .any, .any, .any, .any, .any, .any, .any, .any, .any, .any, .any, .any, .any, .any, .any, .any, .any, .any, .any, .any, .any, .any, .any, .any, .any, .any, .any, .any, .any, .any, .any, .any, .any, .any, .any, .any, .any, .any, .any, .any, .any, .any], [.ex false [.c (.os 1 0 0 1 t3.1 none)] 58, .ex false [.row t3.2.1 (.int .i64) t332.1] 3], 0⟩
theorem halterlaw04_FramesCount.l6_ok (t3 : Nat × Nat × (List Int)) (x95 : Int) (t332 : (List Int) × Int) (a0 : Int) (a1 : (List (Int × Int))) : ∀ (n : Nat) (x335 : Int) (x336 : Int) (r : Int), halterlaw04_FramesCount.l6 t3 x95 t332 a0 a1 n x335 x336 = some r → TripN cfg (cpath (Tryd.f4.body.getD .skip) [1, 1, 1, 1, 1, 0, 1, 0, 0, 1, 0, 0, 1, 1, 1, 1, 0, 1, 0, 0]) n (halterlaw04_FramesCount.l6_S t3 x95 t332 a0 a1 x335 x336) (halterlaw04_FramesCount.l6_Q t3 x95 t332 a0 a1 r) := by
  intro n
  induction n with
  | zero => intro x335 x336 r h; cases h
  | succ n ih =>
    intro x335 x336 r h
    rw [halterlaw04_FramesCount.l6] at h
    refine TripN.of_run cfg_ok (k := (.br (.callR true [] [0, 1] (Int) (fun t342 => (frames_Frames_Refs.R t342)) (fun t342 => (frames_Frames_Refs.B x336 t3.1 t3.2.1 t332.1 t342)) (fun t342 => (.adj [] (.adj [.keep [1, 5, 6, 8, 9, 18, 19], .drop 2] .nil)))) (.adj [.keep [1, 5, 6, 8, 9, 18], .drop 2] .nil))) (to_goal (q := (True) ∧ (((decide (x336 < (IntKind.wrap .i64 ((1 : Int) + (IntKind.wrap .i64 ((Int.tmod (IntKind.wrap .u64 (a0)) (12 : Int)))))))) = true → (∃ t342 : Int, (Fun cfg 10 [.one (.ptr 0 ⟨0, 0, 0, 0⟩), .one (.sc (.int .i64 x336))] [.ex false [.c (.os 1 0 0 1 t3.1 none)] 58, .ex false [.row t3.2.1 (.int .i64) t332.1] 3] (frames_Frames_Refs.R t342) (frames_Frames_Refs.B x336 t3.1 t3.2.1 t332.1 t342) ∧ True) ∧ (True) ∧ (True ∧ (True) ∧ (((True) ∧ (True) ∧ True) ∧ TripN cfg (cpath (Tryd.f4.body.getD .skip) [1, 1, 1, 1, 1, 0, 1, 0, 0, 1, 0, 0, 1, 1, 1, 1, 0, 1, 0, 0]) n (halterlaw04_FramesCount.l6_S t3 x95 t332 a0 a1 (IntKind.wrap .i64 (x335 + t342)) (IntKind.wrap .i64 (x336 + (1 : Int)))) (halterlaw04_FramesCount.l6_Q t3 x95 t332 a0 a1 r))))) ∧ ((decide (x336 < (IntKind.wrap .i64 ((1 : Int) + (IntKind.wrap .i64 ((Int.tmod (IntKind.wrap .u64 (a0)) (12 : Int)))))))) = false → (((True) ∧ (True) ∧ True) ∧ halterlaw04_FramesCount.l6_Q t3 x95 t332 a0 a1 r (.exit 5) ⟨[.any, .v (.one (.fs (.pair (.int .i64) (.int .i64)) a1 false)), .any, .any, .any, .v (.one (.sc (.int .i64 (IntKind.wrap .i64 ((1 : Int) + (IntKind.wrap .i64 ((Int.tmod (IntKind.wrap .u64 (a0)) (12 : Int))))))))), .v (.one (.ptr 0 ⟨0, 0, 0, 0⟩)), .any, .v (.one (.sc (.int .i64 t332.2))), .v (.one (.sc (.int .i64 x95))), .any, .any, .any, .any, .any, .any, .any, .any, .v (.one (.sc (.int .i64 x335))), .any, .any, .any, .any, .any, .any, .any, .any, .any, .any, .any, .any, .any, .any, .any, .any, .any, .any, .any, .any, .any, .any, .any, .any, .any, .any, .any, .any, .any, .any, .any, .any, .any, .any, .any, .any, .any, .any, .any, .any, .any, .any, .any, .any, .any, .any, .any, .any, .any, .any, .any, .any, .any, .any, .any, .any, .any, .any, .any, .any, .any, .any, .any, .any, .any, .any, .any, .any, .any, .any, .any, .any, .any, .any, .any, .any, .any, .any, .any, .any, .any, .any, .any, .any, .any, .any, .any, .any, .any, .any, .any, .any, .any, .any, .any, .any, .any, .any, .any, .any, .any, .any, .any, .any, .any, .any, .any, .any, .any, .any, .any, .any, .any, .any, .any, .any, .any, .any, .any, .any, .any, .any, .any, .any, .any, .any, .any, .any, .any, .any, .any, .any, .any, .any, .any, .any, .any, .any, .any, .any, .any, .any, .any, .any, .any, .any, .any, .any, .any, .any], [.ex false [.c (.os 1 0 0 1 t3.1 none)] 58, .ex false [.row t3.2.1 (.int .i64) t332.1] 3], 0⟩)))) (by kernel_rfl) ?_)
    refine ⟨trivial, ?_⟩
    refine ⟨fun b341 => ?_, fun b341 => ?_⟩
    · rw [if_pos (of_decide_eq_true b341)] at h
      obtain ⟨t342, ht342, h⟩ := of_bind h
      refine ⟨t342, ⟨frames_Frames_Refs.fun_ ht342, trivial⟩, ?_⟩
      refine ⟨trivial, ?_⟩
      refine ⟨trivial, ?_⟩
      refine ⟨trivial, ?_⟩
      exact ⟨⟨trivial, trivial, trivial⟩, ih (IntKind.wrap .i64 (x335 + t342)) (IntKind.wrap .i64 (x336 + (1 : Int))) r h⟩
    · rw [if_neg (of_decide_eq_false b341)] at h
      obtain rfl := Option.some.inj h
      exact ⟨⟨trivial, trivial, trivial⟩, rfl, rfl⟩
def halterlaw04_FramesCount.l0 (t3 : Nat × Nat × (List Int)) (a0 : Int) (a1 : (List (Int × Int))) : Nat → (List Int) → Int → Int → Option (((List Int)) ⊕ ((List Int)))
  | 0, _, _, _ => none
  | n + 1, x93, x94, x95 =>
    if x95 < (((List.length a1) : Nat) : Int) then
      if x95 < (60 : Int) then
        if 0 ≤ x95 ∧ x95 < (((List.length a1) : Nat) : Int) then
          if (IntKind.wrap .u64 ((IntKind.wrap .i64 ((1 : Int) + (IntKind.wrap .i64 ((Int.tmod (IntKind.wrap .u64 (a0)) (12 : Int)))))))) ≠ 0 then
            (frames_Frames_Free.f t3.1 t3.2.1 x93).bind fun t188 =>
            if 0 ≤ x95 ∧ x95 < (((List.length a1) : Nat) : Int) then
              (halterlaw04_FramesCount.j1 t3 x93 x94 x95 t188 a0 a1).bind fun t252 =>
              match t252 with
              | .inl t332 =>
                (halterlaw04_FramesCount.l6 t3 x95 t332 a0 a1 FUEL (0 : Int) (0 : Int)).bind fun t340 =>
                if ¬ t340 = t332.2 then
                  some (.inr t332.1)
                else
                  (frames_Frames_Free.f t3.1 t3.2.1 t332.1).bind fun t346 =>
                  (frames_Frames_Taken.f t3.1 t3.2.1 t332.1).bind fun t347 =>
                  if ¬ (IntKind.wrap .i64 (t346 + (((List.length t347) : Nat) : Int))) = (IntKind.wrap .i64 ((1 : Int) + (IntKind.wrap .i64 ((Int.tmod (IntKind.wrap .u64 (a0)) (12 : Int)))))) then
                    some (.inr t332.1)
                  else
                    halterlaw04_FramesCount.l0 t3 a0 a1 n t332.1 t332.2 (IntKind.wrap .i64 (x95 + (1 : Int)))
              | .inr t349 =>
                some (.inr t349)
            else none
          else none
        else none
      else
        some (.inl x93)
    else
      some (.inl x93)
def halterlaw04_FramesCount.l0_S (t3 : Nat × Nat × (List Int)) (a0 : Int) (a1 : (List (Int × Int))) (x93 : List Int) (x94 : Int) (x95 : Int) : St := ⟨[.any, .v (.one (.fs (.pair (.int .i64) (.int .i64)) a1 false)), .any, .any, .any, .v (.one (.sc (.int .i64 (IntKind.wrap .i64 ((1 : Int) + (IntKind.wrap .i64 ((Int.tmod (IntKind.wrap .u64 (a0)) (12 : Int))))))))), .v (.one (.ptr 0 ⟨0, 0, 0, 0⟩)), .any, .v (.one (.sc (.int .i64 x94))), .v (.one (.sc (.int .i64 x95))), .any, .any, .any, .any, .any, .any, .any, .any, .any, .any, .any, .any, .any, .any, .any, .any, .any, .any, .any, .any, .any, .any, .any, .any, .any, .any, .any, .any, .any, .any, .any, .any, .any, .any, .any, .any, .any, .any, .any, .any, .any, .any, .any, .any, .any, .any, .any, .any, .any, .any, .any, .any, .any, .any, .any, .any, .any, .any, .any, .any, .any, .any, .any, .any, .any, .any, .any, .any, .any, .any, .any, .any, .any, .any, .any, .any, .any, .any, .any, .any, .any, .any, .any, .any, .any, .any, .any, .any, .any, .any, .any, .any, .any, .any, .any, .any, .any, .any, .any, .any, .any, .any, .any, .any, .any, .any, .any, .any, .any, .any, .any, .any, .any, .any, .any, .any, .any, .any, .any, .any, .any, .any, .any, .any, .any, .any, .any, .any, .any, .any, .any, .any, .any, .any, .any, .any, .any, .any, .any, .any, .any, .any, .any, .any, .any, .any, .any, .any, .any, .any, .any, .any, .any, .any, .any, .any, .any, .any, .any], [.ex false [.c (.os 1 0 0 1 t3.1 none)] 58, .ex false [.row t3.2.1 (.int .i64) x93] 3], 0⟩
def halterlaw04_FramesCount.l0_Q (t3 : Nat × Nat × (List Int)) (a0 : Int) (a1 : (List (Int × Int))) : ((List Int)) ⊕ ((List Int)) → Exit → St → Prop
  | .inl t => fun e s => e = (.exit 0) ∧ s = ⟨[.any, .any, .any, .any, .any, .any, .any, .any, .any, .any, .any, .any, .any, .any, .any, .any, .any, .any, .any, .any, .any, .any, .any, .any, .any, .any, .any, .any, .any, .any, .any, .any, .any, .any, .any, .any, .any, .any, .any, .any, .any, .any, .any, .any, .any, .any, .any, .any, .any, .any, .any, .any, .any, .any, .any, .any, .any, .any, .any, .any, .any, .any, .any, .any, .any, .any, .any, .any, .any, .any, .any, .any, .any, .any, .any, .any, .any, .any, .any, .any, .any, .any, .any, .any, .any, .any, .any, .any, .any, .any, .any, .any, .any, .any, .any, .any, .any, .any, .any, .any, .any, .any, .any, .any, .any, .any, .any, .any, .any, .any, .any, .any, .any, .any, .any, .any, .any, .any, .any, .any, .any, .any, .any, .any, .any, .any, .any, .any, .any, .any, .any, .any, .any, .any, .any, .any, .any, .any, .any, .any, .any, .any, .any, .any, .any, .any, .any, .any, .any, .any, .any, .any, .any, .any, .any, .any, .any, .any, .any, .any, .any, .any, .any, .any, .any, .any, .any, .any, .any], [.ex false [.c (.os 1 0 0 1 t3.1 none)] 58, .ex false [.row t3.2.1 (.int .i64) t] 3], 0⟩
  | .inr t => fun e s => e = .ret ∧ s = ⟨[.any, .any, .any, .any, .v (.one (.sc (.bool false))), .any, .any, .any, .any, .any, .any, .any, .any, .any, .any, .any, .any, .any, .any, .any, .any, .any, .any, .any, .any, .any, .any, .any, .any, .any, .any, .any, .any, .any, .any, .any, .any, .any, .any, .any, .any, .any, .any, .any, .any, .any, .any, .any, .any, .any, .any, .any, .any, .any, .any, .any, .any, .any, .any, .any, .any, .any, .any, .any, .any, .any, .any, .any, .any, .any, .any, .any, .any, .any, .any, .any, .any, .any, .any, .any, .any, .any, .any, .any, .any, .any, .any, .any, .any, .any, .any, .any, .any, .any, .any, .any, .any, .any, .any, .any, .any, .any, .any, .any, .any, .any, .any, .any, .any, .any, .any, .any, .any, .any, .any, .any, .any, .any, .any, .any, .any, .any, .any, .any, .any, .any, .any, .any, .any, .any, .any, .any, .any, .any, .any, .any, .any, .any, .any, .any, .any, .any, .any, .any, .any, .any, .any, .any, .any, .any, .any, .any, .any, .any, .any, .any, .any, .any, .any, .any, .any, .any, .any, .any, .any, .any, .any, .any, .any], [.ex false [.c (.os 1 0 0 1 t3.1 none)] 58, .ex false [.row t3.2.1 (.int .i64) t] 3], 0⟩
end Go.Proofs.YthoilcjnnifenaaDoorGFramesCount
