/- Printed by gen.py: the next part. -/
import Derived.Test.YtbnlochgbhcfnaaGreatDoorGProcStepsp1
set_option linter.unusedVariables false
set_option maxRecDepth 100000
set_option maxHeartbeats 4000000
namespace Go.Proofs.YtbnlochgbhcfnaaGreatDoorGProcSteps
open Go Go.Proofs.YtbnlochgbhcfnaaGreatDoorE
theorem halterref03_Of.l0_ok (a0 : (List Int)) : ∀ (n : Nat) (x1 : Int) (x2 : Int) (r : Int), halterref03_Of.l0 a0 n x1 x2 = some r → TripN cfg (cpath (Tryz.f67.body.getD .skip) [1, 1, 0, 1, 0, 0]) n (halterref03_Of.l0_S a0 x1 x2) (halterref03_Of.l0_Q a0 r) := by
  intro n
  induction n with
  | zero => intro x1 x2 r h; cases h
  | succ n ih =>
    intro x1 x2 r h
    rw [halterref03_Of.l0] at h
    refine TripN.of_run cfg_ok (k := (.br (aE 5 (.adj [.keep [0, 3, 4, 5]] (.sub (Int) (fun _ => (.exit 2)) (fun t22 => ⟨[.v (.one (.fs (.int .i64) a0 false)), A, A, vi .u32 t22, vi .i64 x2, A, A, A, A, A, A, A, A, A, A, A, A, A, A, A, A, A, A, A, A, A, A], [], 0⟩) (fun t22 => (.adj [] (.adj [.keep [0, 3, 4], .drop 0] .nil)))))) (.adj [.keep [3], .drop 0] .nil))) (to_goal (q := (U) ∧ (((decide (x2 ≥ (1 : Int))) = true → (U ∧ (U ∧ (U ∧ (U) ∧ (U ∧ (U ∧ (((U) ∧ U) ∧ (∃ t22 : Int, Trip cfg (.loop (cpath (Tryz.f67.body.getD .skip) [1, 1, 0, 1, 0, 0, 1, 0, 0, 1, 1, 0, 0])) ⟨[.v (.one (.fs (.int .i64) a0 false)), A, A, vi .u32 (IntKind.wrap .u32 ((2 : Int) * x1)), vi .i64 x2, vi .i64 (0 : Int), A, A, A, A, A, A, A, A, A, A, A, A, A, A, A, A, A, A, A, A, A], [], 0⟩ (fun e s => e = (.exit 2) ∧ s = ⟨[.v (.one (.fs (.int .i64) a0 false)), A, A, vi .u32 t22, vi .i64 x2, A, A, A, A, A, A, A, A, A, A, A, A, A, A, A, A, A, A, A, A, A, A], [], 0⟩) ∧ (U ∧ (U) ∧ (((U) ∧ (U) ∧ U) ∧ TripN cfg (cpath (Tryz.f67.body.getD .skip) [1, 1, 0, 1, 0, 0]) n (halterref03_Of.l0_S a0 t22 (IntKind.wrap .i64 (x2 - (1 : Int)))) (halterref03_Of.l0_Q a0 r))))))))))) ∧ ((decide (x2 ≥ (1 : Int))) = false → (((U) ∧ (U) ∧ U) ∧ halterref03_Of.l0_Q a0 r (.exit 0) ⟨[A, A, A, vi .u32 x1, A, A, A, A, A, A, A, A, A, A, A, A, A, A, A, A, A, A, A, A, A, A, A], [], 0⟩)))) (by kernel_rfl) ?_)
    refine tI ?_
    refine ⟨fun b15 => ?_, fun b15 => ?_⟩
    · rw [if_pos (dT_ b15)] at h
      refine ⟨T, T, T, T, T, T, ?_⟩
      obtain ⟨t22, ht22, h⟩ := of_bind h
      refine ⟨⟨T, T⟩, t22, Trip.loop FUEL (halterref03_Of.l1_ok x2 a0 FUEL (IntKind.wrap .u32 ((2 : Int) * x1)) (0 : Int) t22 ht22), ?_⟩
      refine ⟨T, T, ?_⟩
      exact ⟨⟨T, T, T⟩, ih t22 (IntKind.wrap .i64 (x2 - (1 : Int))) r h⟩
    · rw [if_neg (dF_ b15)] at h
      obtain rfl := oi h
      exact ⟨⟨T, T, T⟩, rfl, rfl⟩
def halterref03_Of.f (a0 : (List Int)) : Option Int :=
  (halterref03_Of.l0 a0 FUEL (0 : Int) (31 : Int)).bind fun t14 =>
  some t14
def halterref03_Of.R (r : Int) : Tm := vi .u32 r
theorem halterref03_Of.fun_ {a0 : (List Int)} {r : Int} (h : halterref03_Of.f a0 = some r) : Fun cfg 67 [.one (.fs (.int .i64) a0 false)] [] (halterref03_Of.R r) [] := by
  unfold halterref03_Of.f at h
  refine fun_of_run cfg_ok (f := 67) (fn := Tryz.f67) Tryz.func67 rfl (by kernel_rfl) (rs := [.tmp 2]) rfl (nt := 27) rfl (l := fin) (k := (aE 4 (.adj [.keep [0, 3, 4]] (.sub (Int) (fun _ => (.exit 0)) (fun t14 => ⟨[A, A, A, vi .u32 t14, A, A, A, A, A, A, A, A, A, A, A, A, A, A, A, A, A, A, A, A, A, A, A], [], 0⟩) (fun t14 => (aE 3 .nil)))))) (to_goal (q := (U ∧ (U ∧ (U ∧ (U ∧ (((U) ∧ U) ∧ (∃ t14 : Int, Trip cfg (.loop (cpath (Tryz.f67.body.getD .skip) [1, 1, 0, 1, 0, 0])) ⟨[.v (.one (.fs (.int .i64) a0 false)), A, A, vi .u32 (0 : Int), vi .i64 (31 : Int), A, A, A, A, A, A, A, A, A, A, A, A, A, A, A, A, A, A, A, A, A, A], [], 0⟩ (fun e s => e = (.exit 0) ∧ s = ⟨[A, A, A, vi .u32 t14, A, A, A, A, A, A, A, A, A, A, A, A, A, A, A, A, A, A, A, A, A, A, A], [], 0⟩) ∧ (U ∧ (U ∧ ((U) ∧ (U) ∧ (vi .u32 t14 : Tm) = halterref03_Of.R r ∧ ([] : List Box) = [])))))))))) (by kernel_rfl) ?_)
  refine ⟨T, T, T, T, ?_⟩
  obtain ⟨t14, ht14, h⟩ := of_bind h
  refine ⟨⟨T, T⟩, t14, Trip.loop FUEL (halterref03_Of.l0_ok a0 FUEL (0 : Int) (31 : Int) t14 ht14), ?_⟩
  refine ⟨T, T, ?_⟩
  obtain rfl := oi h
  exact ⟨T, T, rfl, rfl⟩
/-! halter/halterref03.Del -/
def halterref03_Del.l0 (t1 : (List Int)) (a1 : Int) : Nat → (List Int) → Int → Option (List Int)
  | 0, _, _ => none
  | n + 1, x17, x18 =>
    if x18 < (((List.length t1) : Nat) : Int) then
      if 0 ≤ x18 ∧ x18 < (((List.length t1) : Nat) : Int) then
        if (0 + (Int.toNat x18)) < (List.length t1) then
          if ¬ (List.getD t1 (0 + (Int.toNat x18)) (0 : Int)) = a1 then
            if 0 ≤ x18 ∧ x18 < (((List.length t1) : Nat) : Int) then
              if (0 + (Int.toNat x18)) < (List.length t1) then
                if (0 = 0 ∧ 1 = 1) ∧ 0 = 0 ∧ (List.length x17) = (List.length x17) ∧ (((List.length x17) + 1) * 8 ≤ 140737488355328 ∧ (List.length x17) + 1 ≤ 9223372036854775807) then
                  halterref03_Del.l0 t1 a1 n (x17 ++ [(List.getD t1 (0 + (Int.toNat x18)) (0 : Int))]) (IntKind.wrap .i64 (x18 + (1 : Int)))
                else none
              else none
            else none
          else
            halterref03_Del.l0 t1 a1 n x17 (IntKind.wrap .i64 (x18 + (1 : Int)))
        else none
      else none
    else
      some x17
def halterref03_Del.l0_S (t1 : (List Int)) (a1 : Int) (x17 : List Int) (x18 : Int) : St := ⟨[A, vi .i64 a1, A, A, A, .v (.one (.os 0 0 0 1 (List.length t1) none)), .v (.one (.os 1 0 0 1 (List.length x17) none)), vi .i64 x18, A, A, A, A, A, A, A, A, A, A, A, A, A, A, A, A, A, A, A, A, A, A, A], [.gro false (.int .i64) t1 3, .gro false (.int .i64) x17 3], 0⟩
def halterref03_Del.l0_Q (t1 : (List Int)) (a1 : Int) (t : (List Int)) : Exit → St → Prop := fun e s => e = (.exit 0) ∧ s = ⟨[A, A, A, A, A, A, .v (.one (.os 1 0 0 1 (List.length t) none)), A, A, A, A, A, A, A, A, A, A, A, A, A, A, A, A, A, A, A, A, A, A, A, A], [.gro false (.int .i64) t1 3, .gro false (.int .i64) t 3], 0⟩
theorem halterref03_Del.l0_ok (t1 : (List Int)) (a1 : Int) : ∀ (n : Nat) (x17 : List Int) (x18 : Int) (r : (List Int)), halterref03_Del.l0 t1 a1 n x17 x18 = some r → TripN cfg (cpath (Tryz.f50.body.getD .skip) [1, 1, 1, 0, 1, 0, 0]) n (halterref03_Del.l0_S t1 a1 x17 x18) (halterref03_Del.l0_Q t1 a1 r) := by
  intro n
  induction n with
  | zero => intro x17 x18 r h; cases h
  | succ n ih =>
    intro x17 x18 r h
    rw [halterref03_Del.l0] at h
    refine TripN.of_run cfg_ok (k := (.br (.br (.d .no (.d (.b true) (.adj [] (.adj [.keep [1, 5, 6, 7], .drop 2] .nil)))) (aE 2 (.adj [.keep [1, 5, 6, 7], .drop 2] .nil))) (.adj [.keep [6], .drop 2] .nil))) (to_goal (q := (U) ∧ (U) ∧ (((decide (x18 < (((List.length t1) : Nat) : Int))) = true → (0 ≤ x18 ∧ x18 < (((List.length t1) : Nat) : Int)) ∧ ((0 + (Int.toNat x18)) < (List.length t1)) ∧ (U) ∧ ((((List.getD t1 (0 + (Int.toNat x18)) (0 : Int)) != a1) = true → (0 ≤ x18 ∧ x18 < (((List.length t1) : Nat) : Int)) ∧ ((0 + (Int.toNat x18)) < (List.length t1)) ∧ ((0 = 0 ∧ 1 = 1) ∧ 0 = 0 ∧ (List.length x17) = (List.length x17) ∧ (((List.length x17) + 1) * 8 ≤ 140737488355328 ∧ (List.length x17) + 1 ≤ 9223372036854775807)) ∧ (U ∧ (U) ∧ (((U) ∧ (U) ∧ U) ∧ TripN cfg (cpath (Tryz.f50.body.getD .skip) [1, 1, 1, 0, 1, 0, 0]) n (halterref03_Del.l0_S t1 a1 (x17 ++ [(List.getD t1 (0 + (Int.toNat x18)) (0 : Int))]) (IntKind.wrap .i64 (x18 + (1 : Int)))) (halterref03_Del.l0_Q t1 a1 r)))) ∧ (((List.getD t1 (0 + (Int.toNat x18)) (0 : Int)) != a1) = false → (U ∧ (U ∧ (U) ∧ (((U) ∧ (U) ∧ U) ∧ TripN cfg (cpath (Tryz.f50.body.getD .skip) [1, 1, 1, 0, 1, 0, 0]) n (halterref03_Del.l0_S t1 a1 x17 (IntKind.wrap .i64 (x18 + (1 : Int)))) (halterref03_Del.l0_Q t1 a1 r))))))) ∧ ((decide (x18 < (((List.length t1) : Nat) : Int))) = false → (((U) ∧ (U) ∧ U) ∧ halterref03_Del.l0_Q t1 a1 r (.exit 0) ⟨[A, A, A, A, A, A, .v (.one (.os 1 0 0 1 (List.length x17) none)), A, A, A, A, A, A, A, A, A, A, A, A, A, A, A, A, A, A, A, A, A, A, A, A], [.gro false (.int .i64) t1 3, .gro false (.int .i64) x17 3], 0⟩)))) (by kernel_rfl) ?_)
    refine ⟨T, T, ?_⟩
    refine ⟨fun b28 => ?_, fun b28 => ?_⟩
    · rw [if_pos (dT_ b28)] at h
      obtain ⟨g34, h⟩ := of_guard h
      refine ⟨g34, ?_⟩
      obtain ⟨g33, h⟩ := of_guard h
      refine ⟨g33, ?_⟩
      refine tI ?_
      refine ⟨fun b29 => ?_, fun b29 => ?_⟩
      · rw [if_pos (bne_t b29)] at h
        obtain ⟨g32, h⟩ := of_guard h
        refine ⟨g32, ?_⟩
        obtain ⟨g31, h⟩ := of_guard h
        refine ⟨g31, ?_⟩
        obtain ⟨g30, h⟩ := of_guard h
        refine ⟨g30, ?_⟩
        refine ⟨T, T, ?_⟩
        exact ⟨⟨T, T, T⟩, ih (x17 ++ [(List.getD t1 (0 + (Int.toNat x18)) (0 : Int))]) (IntKind.wrap .i64 (x18 + (1 : Int))) r h⟩
      · rw [if_neg (not_not_intro (bne_f b29))] at h
        refine ⟨T, T, T, ?_⟩
        exact ⟨⟨T, T, T⟩, ih x17 (IntKind.wrap .i64 (x18 + (1 : Int))) r h⟩
    · rw [if_neg (dF_ b28)] at h
      obtain rfl := oi h
      exact ⟨⟨T, T, T⟩, rfl, rfl⟩
def halterref03_Del.f (a0 : Int) (a1 : Int) : Option Int :=
  (halterref03_List.f a0).bind fun t1 =>
  (halterref03_Del.l0 t1 a1 FUEL ([] : List Int) (0 : Int)).bind fun t27 =>
  (halterref03_Of.f t27).bind fun t37 =>
  some t37
def halterref03_Del.R (r : Int) : Tm := vi .u32 r
theorem halterref03_Del.fun_ {a0 : Int} {a1 : Int} {r : Int} (h : halterref03_Del.f a0 a1 = some r) : Fun cfg 50 [.one (.sc (.int .u32 a0)), .one (.sc (.int .i64 a1))] [] (halterref03_Del.R r) [] := by
  unfold halterref03_Del.f at h
  refine fun_of_run cfg_ok (f := 50) (fn := Tryz.f50) Tryz.func50 rfl (by kernel_rfl) (rs := [.tmp 4]) rfl (nt := 31) rfl (l := fin) (k := (.callR true [] [] ((List Int)) (fun t1 => (halterref03_List.R t1)) (fun t1 => (halterref03_List.B a0 t1)) (fun t1 => (aE 3 (.adj [.keep [1, 5, 6, 7], .nilGro 6 (.int .i64) 3] (.sub ((List Int)) (fun _ => (.exit 0)) (fun t27 => ⟨[A, A, A, A, A, A, .v (.one (.os 1 0 0 1 (List.length t27) none)), A, A, A, A, A, A, A, A, A, A, A, A, A, A, A, A, A, A, A, A, A, A, A, A], [.gro false (.int .i64) t1 3, .gro false (.int .i64) t27 3], 0⟩) (fun t27 => (.call true [] (Int) halterref03_Of.R (fun t37 => (.adj [] (.adj [.drop 0] .nil))))))))))) (to_goal (q := (∃ t1 : (List Int), (Fun cfg 66 [.one (.sc (.int .u32 a0))] [] (halterref03_List.R t1) (halterref03_List.B a0 t1) ∧ U) ∧ (U ∧ (U ∧ (U ∧ (((U) ∧ (U) ∧ U) ∧ (∃ t27 : (List Int), Trip cfg (.loop (cpath (Tryz.f50.body.getD .skip) [1, 1, 1, 0, 1, 0, 0])) ⟨[A, vi .i64 a1, A, A, A, .v (.one (.os 0 0 0 1 (List.length t1) none)), .v (.one (.os 1 0 0 1 0 none)), vi .i64 (0 : Int), A, A, A, A, A, A, A, A, A, A, A, A, A, A, A, A, A, A, A, A, A, A, A], [.gro false (.int .i64) t1 3, .gro false (.int .i64) ([] : List Int) 3], 0⟩ (fun e s => e = (.exit 0) ∧ s = ⟨[A, A, A, A, A, A, .v (.one (.os 1 0 0 1 (List.length t27) none)), A, A, A, A, A, A, A, A, A, A, A, A, A, A, A, A, A, A, A, A, A, A, A, A], [.gro false (.int .i64) t1 3, .gro false (.int .i64) t27 3], 0⟩) ∧ (∃ t37 : Int, ((0 = 0 ∧ (List.length t27) = (List.length t27)) ∧ Fun cfg 67 [.one (.fs (.int .i64) t27 false)] [] (halterref03_Of.R t37) [] ∧ U) ∧ (U ∧ ((U) ∧ ((U) ∧ U) ∧ (vi .u32 t37 : Tm) = halterref03_Del.R r ∧ ([] : List Box) = [])))))))))) (by kernel_rfl) ?_)
  obtain ⟨t1, ht1, h⟩ := of_bind h
  refine ⟨t1, ⟨halterref03_List.fun_ ht1, T⟩, ?_⟩
  refine ⟨T, T, T, ?_⟩
  obtain ⟨t27, ht27, h⟩ := of_bind h
  refine ⟨⟨T, T, T⟩, t27, Trip.loop FUEL (halterref03_Del.l0_ok t1 a1 FUEL ([] : List Int) (0 : Int) t27 ht27), ?_⟩
  obtain ⟨t37, ht37, h⟩ := of_bind h
  refine ⟨t37, ⟨⟨rfl, rfl⟩, halterref03_Of.fun_ ht37, T⟩, ?_⟩
  refine tI ?_
  obtain rfl := oi h
  exact ⟨T, ⟨T, T⟩, rfl, rfl⟩
/-! halter/halterref03.Add -/
def halterref03_Add.f (a0 : Int) (a1 : Int) : Option Int :=
  (halterref03_List.f a0).bind fun t1 =>
  if (0 = 0 ∧ 1 = 1) ∧ 0 = 0 ∧ (List.length t1) = (List.length t1) ∧ (((List.length t1) + 1) * 8 ≤ 140737488355328 ∧ (List.length t1) + 1 ≤ 9223372036854775807) then
    (halterref03_Of.f (t1 ++ [a1])).bind fun t2 =>
    some t2
  else none
def halterref03_Add.R (r : Int) : Tm := vi .u32 r
theorem halterref03_Add.fun_ {a0 : Int} {a1 : Int} {r : Int} (h : halterref03_Add.f a0 a1 = some r) : Fun cfg 53 [.one (.sc (.int .u32 a0)), .one (.sc (.int .i64 a1))] [] (halterref03_Add.R r) [] := by
  unfold halterref03_Add.f at h
  refine fun_of_run cfg_ok (f := 53) (fn := Tryz.f53) Tryz.func53 rfl (by kernel_rfl) (rs := [.tmp 4]) rfl (nt := 11) rfl (l := fin) (k := (.callR true [] [] ((List Int)) (fun t1 => (halterref03_List.R t1)) (fun t1 => (halterref03_List.B a0 t1)) (fun t1 => (.d .no (.d (.b true) (.call true [] (Int) halterref03_Of.R (fun t2 => (.adj [] (.adj [.drop 0] .nil))))))))) (to_goal (q := (∃ t1 : (List Int), (Fun cfg 66 [.one (.sc (.int .u32 a0))] [] (halterref03_List.R t1) (halterref03_List.B a0 t1) ∧ U) ∧ ((0 = 0 ∧ 1 = 1) ∧ 0 = 0 ∧ (List.length t1) = (List.length t1) ∧ (((List.length t1) + 1) * 8 ≤ 140737488355328 ∧ (List.length t1) + 1 ≤ 9223372036854775807)) ∧ (∃ t2 : Int, ((0 = 0 ∧ (List.length (t1 ++ [a1])) = (List.length (t1 ++ [a1]))) ∧ Fun cfg 67 [.one (.fs (.int .i64) (t1 ++ [a1]) false)] [] (halterref03_Of.R t2) [] ∧ U) ∧ (U ∧ ((U) ∧ ((U) ∧ U) ∧ (vi .u32 t2 : Tm) = halterref03_Add.R r ∧ ([] : List Box) = []))))) (by kernel_rfl) ?_)
  obtain ⟨t1, ht1, h⟩ := of_bind h
  refine ⟨t1, ⟨halterref03_List.fun_ ht1, T⟩, ?_⟩
  obtain ⟨g3, h⟩ := of_guard h
  refine ⟨g3, ?_⟩
  obtain ⟨t2, ht2, h⟩ := of_bind h
  refine ⟨t2, ⟨⟨rfl, rfl⟩, halterref03_Of.fun_ ht2, T⟩, ?_⟩
  refine tI ?_
  obtain rfl := oi h
  exact ⟨T, ⟨T, T⟩, rfl, rfl⟩
/-! halter/halterref25.What -/
def halterref25_What.f (a0 : Int) (a1 : Int) (a2 : (List Int)) (a3 : Int) : Option Int :=
  if a3 < (1 : Int) then
    some (0 : Int)
  else
    if a3 > (31 : Int) then
      some (0 : Int)
    else
      if 0 ≤ a3 ∧ a3 < ((32 : Nat) : Int) then
        if (Int.toNat a3) < 32 then
          if a3 = (9 : Int) then
            if a3 = (18 : Int) then
              some (3 : Int)
            else
              if a3 = (17 : Int) then
                some (0 : Int)
              else
                if a3 = (19 : Int) then
                  some (2 : Int)
                else
                  if a3 = (20 : Int) then
                    some (2 : Int)
                  else
                    some (1 : Int)
          else
            if a3 = (19 : Int) then
              if a3 = (18 : Int) then
                some (3 : Int)
              else
                if a3 = (17 : Int) then
                  some (0 : Int)
                else
                  some (2 : Int)
            else
              if (List.getD a2 (Int.toNat a3) (0 : Int)) > (1 : Int) then
                some (4 : Int)
              else
                if a3 = (18 : Int) then
                  some (3 : Int)
                else
                  if (List.getD a2 (Int.toNat a3) (0 : Int)) = (1 : Int) then
                    some (0 : Int)
                  else
                    if a3 = (17 : Int) then
                      some (0 : Int)
                    else
                      if a3 = (20 : Int) then
                        some (2 : Int)
                      else
                        some (1 : Int)
        else none
      else none
def halterref25_What.R (r : Int) : Tm := vi .i64 r
theorem halterref25_What.fun_ {a0 : Int} {a1 : Int} {a2 : (List Int)} {a3 : Int} {r : Int} (h : halterref25_What.f a0 a1 a2 a3 = some r) : Fun cfg 52 [.agg [.c (.sc (.int .u32 a0)), .c (.sc (.int .u32 a1)), .row 32 (.int .u32) a2], .one (.sc (.int .i64 a3))] [] (halterref25_What.R r) [] := by
  unfold halterref25_What.f at h
  refine fun_of_run cfg_ok (f := 52) (fn := Tryz.f52) Tryz.func52 rfl (by kernel_rfl) (rs := [.tmp 4]) rfl (nt := 38) rfl (l := fin) (k := (.br (oT 3 (aE 2 (.adj [.drop 0] .nil))) (oF 2 (.br (aE 2 (.adj [.drop 0] .nil)) (.br (oT 3 (.one false (.br (aE 2 (.adj [.drop 0] .nil)) (oF 3 (.br (aE 2 (.adj [.drop 0] .nil)) (.br (oT 3 (aE 2 (.adj [.drop 0] .nil))) (oF 2 (.br (aE 2 (.adj [.drop 0] .nil)) (aE 3 (.adj [.drop 0] .nil)))))))))) (oF 2 (.br (.one false (.br (aE 2 (.adj [.drop 0] .nil)) (oF 3 (.br (aE 2 (.adj [.drop 0] .nil)) (oT 4 (aE 2 (.adj [.drop 0] .nil))))))) (.br (aE 2 (.adj [.drop 0] .nil)) (.br (aE 2 (.adj [.drop 0] .nil)) (.br (oT 3 (aE 2 (.adj [.drop 0] .nil))) (oF 2 (.br (aE 2 (.adj [.drop 0] .nil)) (oF 3 (.br (aE 2 (.adj [.drop 0] .nil)) (aE 3 (.adj [.drop 0] .nil)))))))))))))))) (to_goal (q := (U) ∧ (((decide (a3 < (1 : Int))) = false → ((decide (a3 < (1 : Int))) = false ∧ (U) ∧ ((decide (a3 < (1 : Int))) = false ∧ (((decide (a3 > (31 : Int))) = true → (U ∧ (U ∧ ((U) ∧ ((U) ∧ U) ∧ (vi .i64 (0 : Int) : Tm) = halterref25_What.R r ∧ ([] : List Box) = [])))) ∧ ((decide (a3 > (31 : Int))) = false → (0 ≤ a3 ∧ a3 < ((32 : Nat) : Int)) ∧ ((Int.toNat a3) < 32) ∧ (U) ∧ (((a3 == (9 : Int)) = false → ((a3 == (9 : Int)) = false ∧ (U) ∧ ((a3 == (9 : Int)) = false ∧ (((a3 == (19 : Int)) = true → (U) ∧ (false = false ∧ (U) ∧ (((a3 == (18 : Int)) = true → (U ∧ (U ∧ ((U) ∧ ((U) ∧ U) ∧ (vi .i64 (3 : Int) : Tm) = halterref25_What.R r ∧ ([] : List Box) = [])))) ∧ ((a3 == (18 : Int)) = false → (U) ∧ (false = false ∧ (false = false ∧ (U) ∧ (false = false ∧ (((a3 == (17 : Int)) = true → (U ∧ (U ∧ ((U) ∧ ((U) ∧ U) ∧ (vi .i64 (0 : Int) : Tm) = halterref25_What.R r ∧ ([] : List Box) = [])))) ∧ ((a3 == (17 : Int)) = false → (U) ∧ ((a3 == (19 : Int)) = true ∧ ((a3 == (19 : Int)) = true ∧ ((a3 == (19 : Int)) = true ∧ (true = true ∧ (U ∧ (U ∧ ((U) ∧ ((U) ∧ U) ∧ (vi .i64 (2 : Int) : Tm) = halterref25_What.R r ∧ ([] : List Box) = [])))))))))))))))) ∧ ((a3 == (19 : Int)) = false → (U) ∧ (((decide ((List.getD a2 (Int.toNat a3) (0 : Int)) > (1 : Int))) = true → (U ∧ (U ∧ ((U) ∧ ((U) ∧ U) ∧ (vi .i64 (4 : Int) : Tm) = halterref25_What.R r ∧ ([] : List Box) = [])))) ∧ ((decide ((List.getD a2 (Int.toNat a3) (0 : Int)) > (1 : Int))) = false → (U) ∧ (((a3 == (18 : Int)) = true → (U ∧ (U ∧ ((U) ∧ ((U) ∧ U) ∧ (vi .i64 (3 : Int) : Tm) = halterref25_What.R r ∧ ([] : List Box) = [])))) ∧ ((a3 == (18 : Int)) = false → (U) ∧ ((((List.getD a2 (Int.toNat a3) (0 : Int)) == (1 : Int)) = false → (((List.getD a2 (Int.toNat a3) (0 : Int)) == (1 : Int)) = false ∧ (U) ∧ (((List.getD a2 (Int.toNat a3) (0 : Int)) == (1 : Int)) = false ∧ (((a3 == (17 : Int)) = true → (U ∧ (U ∧ ((U) ∧ ((U) ∧ U) ∧ (vi .i64 (0 : Int) : Tm) = halterref25_What.R r ∧ ([] : List Box) = [])))) ∧ ((a3 == (17 : Int)) = false → (U) ∧ ((a3 == (19 : Int)) = false ∧ ((a3 == (19 : Int)) = false ∧ (U) ∧ ((a3 == (19 : Int)) = false ∧ (((a3 == (20 : Int)) = true → (U ∧ (U ∧ ((U) ∧ ((U) ∧ U) ∧ (vi .i64 (2 : Int) : Tm) = halterref25_What.R r ∧ ([] : List Box) = [])))) ∧ ((a3 == (20 : Int)) = false → (U ∧ (U ∧ (U ∧ ((U) ∧ ((U) ∧ U) ∧ (vi .i64 (1 : Int) : Tm) = halterref25_What.R r ∧ ([] : List Box) = [])))))))))))))) ∧ (((List.getD a2 (Int.toNat a3) (0 : Int)) == (1 : Int)) = true → (((List.getD a2 (Int.toNat a3) (0 : Int)) == (1 : Int)) = true ∧ (((List.getD a2 (Int.toNat a3) (0 : Int)) == (1 : Int)) = true ∧ (true = true ∧ (U ∧ (U ∧ ((U) ∧ ((U) ∧ U) ∧ (vi .i64 (0 : Int) : Tm) = halterref25_What.R r ∧ ([] : List Box) = []))))))))))))))))) ∧ ((a3 == (9 : Int)) = true → ((a3 == (9 : Int)) = true ∧ ((a3 == (9 : Int)) = true ∧ (true = true ∧ (U) ∧ (false = false ∧ (U) ∧ (((a3 == (18 : Int)) = true → (U ∧ (U ∧ ((U) ∧ ((U) ∧ U) ∧ (vi .i64 (3 : Int) : Tm) = halterref25_What.R r ∧ ([] : List Box) = [])))) ∧ ((a3 == (18 : Int)) = false → (U) ∧ (false = false ∧ (false = false ∧ (U) ∧ (false = false ∧ (((a3 == (17 : Int)) = true → (U ∧ (U ∧ ((U) ∧ ((U) ∧ U) ∧ (vi .i64 (0 : Int) : Tm) = halterref25_What.R r ∧ ([] : List Box) = [])))) ∧ ((a3 == (17 : Int)) = false → (U) ∧ (((a3 == (19 : Int)) = false → ((a3 == (19 : Int)) = false ∧ (U) ∧ ((a3 == (19 : Int)) = false ∧ (((a3 == (20 : Int)) = true → (U ∧ (U ∧ ((U) ∧ ((U) ∧ U) ∧ (vi .i64 (2 : Int) : Tm) = halterref25_What.R r ∧ ([] : List Box) = [])))) ∧ ((a3 == (20 : Int)) = false → (U ∧ (U ∧ (U ∧ ((U) ∧ ((U) ∧ U) ∧ (vi .i64 (1 : Int) : Tm) = halterref25_What.R r ∧ ([] : List Box) = []))))))))) ∧ ((a3 == (19 : Int)) = true → ((a3 == (19 : Int)) = true ∧ ((a3 == (19 : Int)) = true ∧ (true = true ∧ (U ∧ (U ∧ ((U) ∧ ((U) ∧ U) ∧ (vi .i64 (2 : Int) : Tm) = halterref25_What.R r ∧ ([] : List Box) = [])))))))))))))))))))))))))) ∧ ((decide (a3 < (1 : Int))) = true → ((decide (a3 < (1 : Int))) = true ∧ ((decide (a3 < (1 : Int))) = true ∧ (true = true ∧ (U ∧ (U ∧ ((U) ∧ ((U) ∧ U) ∧ (vi .i64 (0 : Int) : Tm) = halterref25_What.R r ∧ ([] : List Box) = []))))))))) (by kernel_rfl) ?_)
  refine tI ?_
  refine ⟨fun b1 => ?_, fun b1 => ?_⟩
  · rw [if_neg (dF_ b1)] at h
    refine ⟨b1, ?_⟩
    refine tI ?_
    refine ⟨b1, ?_⟩
    refine ⟨fun b2 => ?_, fun b2 => ?_⟩
    · rw [if_pos (dT_ b2)] at h
      refine ⟨T, T, ?_⟩
      obtain rfl := oi h
      exact ⟨T, ⟨T, T⟩, rfl, rfl⟩
    · rw [if_neg (dF_ b2)] at h
      obtain ⟨g17, h⟩ := of_guard h
      refine ⟨g17, ?_⟩
      obtain ⟨g16, h⟩ := of_guard h
      refine ⟨g16, ?_⟩
      refine tI ?_
      refine ⟨fun b3 => ?_, fun b3 => ?_⟩
      · rw [if_neg (beq_f b3)] at h
        refine ⟨b3, ?_⟩
        refine tI ?_
        refine ⟨b3, ?_⟩
        refine ⟨fun b8 => ?_, fun b8 => ?_⟩
        · rw [if_pos (beq_t b8)] at h
          refine ⟨T, rfl, T, ?_⟩
          refine ⟨fun b9 => ?_, fun b9 => ?_⟩
          · rw [if_pos (beq_t b9)] at h
            refine ⟨T, T, ?_⟩
            obtain rfl := oi h
            exact ⟨T, ⟨T, T⟩, rfl, rfl⟩
          · rw [if_neg (beq_f b9)] at h
            refine ⟨T, rfl, rfl, T, rfl, ?_⟩
            refine ⟨fun b10 => ?_, fun b10 => ?_⟩
            · rw [if_pos (beq_t b10)] at h
              refine ⟨T, T, ?_⟩
              obtain rfl := oi h
              exact ⟨T, ⟨T, T⟩, rfl, rfl⟩
            · rw [if_neg (beq_f b10)] at h
              refine tI ?_
              refine ⟨b8, ?_⟩
              refine ⟨b8, ?_⟩
              refine ⟨b8, ?_⟩
              refine ⟨rfl, T, T, ?_⟩
              obtain rfl := oi h
              exact ⟨T, ⟨T, T⟩, rfl, rfl⟩
        · rw [if_neg (beq_f b8)] at h
          refine tI ?_
          refine ⟨fun b11 => ?_, fun b11 => ?_⟩
          · rw [if_pos (dT_ b11)] at h
            refine ⟨T, T, ?_⟩
            obtain rfl := oi h
            exact ⟨T, ⟨T, T⟩, rfl, rfl⟩
          · rw [if_neg (dF_ b11)] at h
            refine tI ?_
            refine ⟨fun b12 => ?_, fun b12 => ?_⟩
            · rw [if_pos (beq_t b12)] at h
              refine ⟨T, T, ?_⟩
              obtain rfl := oi h
              exact ⟨T, ⟨T, T⟩, rfl, rfl⟩
            · rw [if_neg (beq_f b12)] at h
              refine tI ?_
              refine ⟨fun b13 => ?_, fun b13 => ?_⟩
              · rw [if_neg (beq_f b13)] at h
                refine ⟨b13, ?_⟩
                refine tI ?_
                refine ⟨b13, ?_⟩
                refine ⟨fun b14 => ?_, fun b14 => ?_⟩
                · rw [if_pos (beq_t b14)] at h
                  refine ⟨T, T, ?_⟩
                  obtain rfl := oi h
                  exact ⟨T, ⟨T, T⟩, rfl, rfl⟩
                · rw [if_neg (beq_f b14)] at h
                  refine tI ?_
                  refine ⟨b8, ?_⟩
                  refine ⟨b8, ?_⟩
                  refine tI ?_
                  refine ⟨b8, ?_⟩
                  refine ⟨fun b15 => ?_, fun b15 => ?_⟩
                  · rw [if_pos (beq_t b15)] at h
                    refine ⟨T, T, ?_⟩
                    obtain rfl := oi h
                    exact ⟨T, ⟨T, T⟩, rfl, rfl⟩
                  · rw [if_neg (beq_f b15)] at h
                    refine ⟨T, T, T, ?_⟩
                    obtain rfl := oi h
                    exact ⟨T, ⟨T, T⟩, rfl, rfl⟩
              · rw [if_pos (beq_t b13)] at h
                refine ⟨b13, ?_⟩
                refine ⟨b13, ?_⟩
                refine ⟨rfl, T, T, ?_⟩
                obtain rfl := oi h
                exact ⟨T, ⟨T, T⟩, rfl, rfl⟩
      · rw [if_pos (beq_t b3)] at h
        refine ⟨b3, ?_⟩
        refine ⟨b3, ?_⟩
        refine ⟨rfl, T, rfl, T, ?_⟩
        refine ⟨fun b4 => ?_, fun b4 => ?_⟩
        · rw [if_pos (beq_t b4)] at h
          refine ⟨T, T, ?_⟩
          obtain rfl := oi h
          exact ⟨T, ⟨T, T⟩, rfl, rfl⟩
        · rw [if_neg (beq_f b4)] at h
          refine ⟨T, rfl, rfl, T, rfl, ?_⟩
          refine ⟨fun b5 => ?_, fun b5 => ?_⟩
          · rw [if_pos (beq_t b5)] at h
            refine ⟨T, T, ?_⟩
            obtain rfl := oi h
            exact ⟨T, ⟨T, T⟩, rfl, rfl⟩
          · rw [if_neg (beq_f b5)] at h
            refine tI ?_
            refine ⟨fun b6 => ?_, fun b6 => ?_⟩
            · rw [if_neg (beq_f b6)] at h
              refine ⟨b6, ?_⟩
              refine tI ?_
              refine ⟨b6, ?_⟩
              refine ⟨fun b7 => ?_, fun b7 => ?_⟩
              · rw [if_pos (beq_t b7)] at h
                refine ⟨T, T, ?_⟩
                obtain rfl := oi h
                exact ⟨T, ⟨T, T⟩, rfl, rfl⟩
              · rw [if_neg (beq_f b7)] at h
                refine ⟨T, T, T, ?_⟩
                obtain rfl := oi h
                exact ⟨T, ⟨T, T⟩, rfl, rfl⟩
            · rw [if_pos (beq_t b6)] at h
              refine ⟨b6, ?_⟩
              refine ⟨b6, ?_⟩
              refine ⟨rfl, T, T, ?_⟩
              obtain rfl := oi h
              exact ⟨T, ⟨T, T⟩, rfl, rfl⟩
  · rw [if_pos (dT_ b1)] at h
    refine ⟨b1, ?_⟩
    refine ⟨b1, ?_⟩
    refine ⟨rfl, T, T, ?_⟩
    obtain rfl := oi h
    exact ⟨T, ⟨T, T⟩, rfl, rfl⟩
/-! halter/halterref25.Post -/
def halterref25_Post.f (a0 : Int) (a1 : Int) (a2 : (List Int)) (a3 : Int) : Option (Int × Int × (List Int) × Int) :=
  (halterref25_May.f a0 a1 a2).bind fun t1 =>
  if ¬ (t1 = true) then
    some ((0 : Int), (0 : Int), (List.replicate 32 (0 : Int)), (22 : Int))
  else
    if a3 < (1 : Int) then
      some ((0 : Int), (0 : Int), (List.replicate 32 (0 : Int)), (22 : Int))
    else
      if a3 > (31 : Int) then
        some ((0 : Int), (0 : Int), (List.replicate 32 (0 : Int)), (22 : Int))
      else
        if a3 = (18 : Int) then
          (halterref03_Del.f a0 (19 : Int)).bind fun t6 =>
          (halterref03_Del.f t6 (20 : Int)).bind fun t7 =>
          if a3 = (19 : Int) then
            (halterref03_Del.f t7 (18 : Int)).bind fun t9 =>
            (halterref03_Has.f a1 a3).bind fun t10 =>
            if t10 = true then
              (halterref03_Add.f t9 a3).bind fun t12 =>
              some (t12, a1, a2, (0 : Int))
            else
              (halterref25_What.f t9 a1 a2 a3).bind fun t13 =>
              if t13 > (0 : Int) then
                (halterref03_Add.f t9 a3).bind fun t15 =>
                some (t15, a1, a2, (0 : Int))
              else
                some (t9, a1, a2, (0 : Int))
          else
            if a3 = (20 : Int) then
              (halterref03_Del.f t7 (18 : Int)).bind fun t17 =>
              (halterref03_Has.f a1 a3).bind fun t18 =>
              if t18 = true then
                (halterref03_Add.f t17 a3).bind fun t20 =>
                some (t20, a1, a2, (0 : Int))
              else
                (halterref25_What.f t17 a1 a2 a3).bind fun t21 =>
                if t21 > (0 : Int) then
                  (halterref03_Add.f t17 a3).bind fun t23 =>
                  some (t23, a1, a2, (0 : Int))
                else
                  some (t17, a1, a2, (0 : Int))
            else
              (halterref03_Has.f a1 a3).bind fun t24 =>
              if t24 = true then
                (halterref03_Add.f t7 a3).bind fun t26 =>
                some (t26, a1, a2, (0 : Int))
              else
                (halterref25_What.f t7 a1 a2 a3).bind fun t27 =>
                if t27 > (0 : Int) then
                  (halterref03_Add.f t7 a3).bind fun t29 =>
                  some (t29, a1, a2, (0 : Int))
                else
                  some (t7, a1, a2, (0 : Int))
        else
          if a3 = (19 : Int) then
            (halterref03_Del.f a0 (18 : Int)).bind fun t31 =>
            (halterref03_Has.f a1 a3).bind fun t32 =>
            if t32 = true then
              (halterref03_Add.f t31 a3).bind fun t34 =>
              some (t34, a1, a2, (0 : Int))
            else
              (halterref25_What.f t31 a1 a2 a3).bind fun t35 =>
              if t35 > (0 : Int) then
                (halterref03_Add.f t31 a3).bind fun t37 =>
                some (t37, a1, a2, (0 : Int))
              else
                some (t31, a1, a2, (0 : Int))
          else
            if a3 = (20 : Int) then
              (halterref03_Del.f a0 (18 : Int)).bind fun t39 =>
              (halterref03_Has.f a1 a3).bind fun t40 =>
              if t40 = true then
                (halterref03_Add.f t39 a3).bind fun t42 =>
                some (t42, a1, a2, (0 : Int))
              else
                (halterref25_What.f t39 a1 a2 a3).bind fun t43 =>
                if t43 > (0 : Int) then
                  (halterref03_Add.f t39 a3).bind fun t45 =>
                  some (t45, a1, a2, (0 : Int))
                else
                  some (t39, a1, a2, (0 : Int))
            else
              (halterref03_Has.f a1 a3).bind fun t46 =>
              if t46 = true then
                (halterref03_Add.f a0 a3).bind fun t48 =>
                some (t48, a1, a2, (0 : Int))
              else
                (halterref25_What.f a0 a1 a2 a3).bind fun t49 =>
                if t49 > (0 : Int) then
                  (halterref03_Add.f a0 a3).bind fun t51 =>
                  some (t51, a1, a2, (0 : Int))
                else
                  some (a0, a1, a2, (0 : Int))
def halterref25_Post.R (r : Int × Int × (List Int) × Int) : Tm := .tup [.agg [.c (.sc (.int .u32 r.1)), .c (.sc (.int .u32 r.2.1)), .row 32 (.int .u32) r.2.2.1], .one (.sc (.int .i64 r.2.2.2))]
theorem halterref25_Post.fun_ {a0 : Int} {a1 : Int} {a2 : (List Int)} {a3 : Int} {r : Int × Int × (List Int) × Int} (h : halterref25_Post.f a0 a1 a2 a3 = some r) : Fun cfg 32 [.agg [.c (.sc (.int .u32 a0)), .c (.sc (.int .u32 a1)), .row 32 (.int .u32) a2], .one (.sc (.int .i64 a3))] [] (halterref25_Post.R r) [] := by
  unfold halterref25_Post.f at h
  refine fun_of_run cfg_ok (f := 32) (fn := Tryz.f32) Tryz.func32 rfl (by kernel_rfl) (rs := [.cell 4 31, .tmp 5]) rfl (nt := 51) rfl (l := fin) (k := (.call true [] (Bool) halterref25_May.R (fun t1 => (.br (oT 6 (aE 2 (.adj [.drop 0] .nil))) (oF 2 (.br (oT 3 (aE 2 (.adj [.drop 0] .nil))) (oF 2 (.br (aE 2 (.adj [.drop 0] .nil)) (.br (.call true [] (Int) halterref03_Del.R (fun t6 => (.call true [] (Int) halterref03_Del.R (fun t7 => (.br (oT 3 (.call true [] (Int) halterref03_Del.R (fun t9 => (.call true [] (Bool) halterref03_Has.R (fun t10 => (.br (oT 5 (.call true [] (Int) halterref03_Add.R (fun t12 => (aE 2 (.adj [.drop 0] .nil))))) (oF 2 (.call true [] (Int) halterref25_What.R (fun t13 => (oF 2 (.br (.call true [] (Int) halterref03_Add.R (fun t15 => (aE 2 (.adj [.drop 0] .nil)))) (aE 3 (.adj [.drop 0] .nil))))))))))))) (oF 2 (.br (.call true [] (Int) halterref03_Del.R (fun t17 => (.call true [] (Bool) halterref03_Has.R (fun t18 => (.br (oT 5 (.call true [] (Int) halterref03_Add.R (fun t20 => (aE 2 (.adj [.drop 0] .nil))))) (oF 2 (.call true [] (Int) halterref25_What.R (fun t21 => (oF 2 (.br (.call true [] (Int) halterref03_Add.R (fun t23 => (aE 2 (.adj [.drop 0] .nil)))) (aE 3 (.adj [.drop 0] .nil)))))))))))) (.call true [] (Bool) halterref03_Has.R (fun t24 => (.br (oT 5 (.call true [] (Int) halterref03_Add.R (fun t26 => (aE 2 (.adj [.drop 0] .nil))))) (oF 2 (.call true [] (Int) halterref25_What.R (fun t27 => (oF 2 (.br (.call true [] (Int) halterref03_Add.R (fun t29 => (aE 2 (.adj [.drop 0] .nil)))) (aE 3 (.adj [.drop 0] .nil))))))))))))))))) (.br (oT 3 (.call true [] (Int) halterref03_Del.R (fun t31 => (.call true [] (Bool) halterref03_Has.R (fun t32 => (.br (oT 5 (.call true [] (Int) halterref03_Add.R (fun t34 => (aE 2 (.adj [.drop 0] .nil))))) (oF 2 (.call true [] (Int) halterref25_What.R (fun t35 => (oF 2 (.br (.call true [] (Int) halterref03_Add.R (fun t37 => (aE 2 (.adj [.drop 0] .nil)))) (aE 3 (.adj [.drop 0] .nil))))))))))))) (oF 2 (.br (.call true [] (Int) halterref03_Del.R (fun t39 => (.call true [] (Bool) halterref03_Has.R (fun t40 => (.br (oT 5 (.call true [] (Int) halterref03_Add.R (fun t42 => (aE 2 (.adj [.drop 0] .nil))))) (oF 2 (.call true [] (Int) halterref25_What.R (fun t43 => (oF 2 (.br (.call true [] (Int) halterref03_Add.R (fun t45 => (aE 2 (.adj [.drop 0] .nil)))) (aE 3 (.adj [.drop 0] .nil)))))))))))) (.call true [] (Bool) halterref03_Has.R (fun t46 => (.br (oT 5 (.call true [] (Int) halterref03_Add.R (fun t48 => (aE 2 (.adj [.drop 0] .nil))))) (oF 2 (.call true [] (Int) halterref25_What.R (fun t49 => (oF 2 (.br (.call true [] (Int) halterref03_Add.R (fun t51 => (aE 2 (.adj [.drop 0] .nil)))) (aE 3 (.adj [.drop 0] .nil)))))))))))))))))))))) (to_goal (q := (U) ∧ (∃ t1 : Bool, (Fun cfg 42 [.agg [.c (.sc (.int .u32 a0)), .c (.sc (.int .u32 a1)), .row 32 (.int .u32) a2]] [] (halterref25_May.R t1) [] ∧ U) ∧ (((!t1) = false → ((!t1) = false ∧ (U) ∧ ((!t1) = false ∧ (((decide (a3 < (1 : Int))) = false → ((decide (a3 < (1 : Int))) = false ∧ (U) ∧ ((decide (a3 < (1 : Int))) = false ∧ (((decide (a3 > (31 : Int))) = true → (U ∧ (U) ∧ (U ∧ (((U) ∧ U) ∧ ((U) ∧ U) ∧ (.tup [.agg [.c (.sc (.int .u32 (0 : Int))), .c (.sc (.int .u32 (0 : Int))), .row 32 (.int .u32) (List.replicate 32 (0 : Int))], .one (.sc (.int .i64 (22 : Int)))] : Tm) = halterref25_Post.R r ∧ ([] : List Box) = [])))) ∧ ((decide (a3 > (31 : Int))) = false → (U) ∧ (((a3 == (18 : Int)) = true → (U) ∧ (∃ t6 : Int, (Fun cfg 50 [.one (.sc (.int .u32 a0)), .one (.sc (.int .i64 (19 : Int)))] [] (halterref03_Del.R t6) [] ∧ U) ∧ (∃ t7 : Int, (Fun cfg 50 [.one (.sc (.int .u32 t6)), .one (.sc (.int .i64 (20 : Int)))] [] (halterref03_Del.R t7) [] ∧ U) ∧ (U) ∧ (U) ∧ (((a3 == (19 : Int)) = false → ((a3 == (19 : Int)) = false ∧ (U) ∧ ((a3 == (19 : Int)) = false ∧ (((a3 == (20 : Int)) = true → (U) ∧ (∃ t17 : Int, (Fun cfg 50 [.one (.sc (.int .u32 t7)), .one (.sc (.int .i64 (18 : Int)))] [] (halterref03_Del.R t17) [] ∧ U) ∧ (U) ∧ (U) ∧ (∃ t18 : Bool, (Fun cfg 51 [.one (.sc (.int .u32 a1)), .one (.sc (.int .i64 a3))] [] (halterref03_Has.R t18) [] ∧ U) ∧ ((t18 = false → (U) ∧ (t18 = false ∧ (t18 = false ∧ (∃ t21 : Int, (Fun cfg 52 [.agg [.c (.sc (.int .u32 t17)), .c (.sc (.int .u32 a1)), .row 32 (.int .u32) a2], .one (.sc (.int .i64 a3))] [] (halterref25_What.R t21) [] ∧ U) ∧ (t18 = false ∧ (U) ∧ (t18 = false ∧ (((decide (t21 > (0 : Int))) = true → (U) ∧ (∃ t23 : Int, (Fun cfg 53 [.one (.sc (.int .u32 t17)), .one (.sc (.int .i64 a3))] [] (halterref03_Add.R t23) [] ∧ U) ∧ (U) ∧ (U ∧ (U) ∧ (U) ∧ (U ∧ (((U) ∧ U) ∧ ((U) ∧ U) ∧ (.tup [.agg [.c (.sc (.int .u32 t23)), .c (.sc (.int .u32 a1)), .row 32 (.int .u32) a2], .one (.sc (.int .i64 (0 : Int)))] : Tm) = halterref25_Post.R r ∧ ([] : List Box) = []))))) ∧ ((decide (t21 > (0 : Int))) = false → (U ∧ (U ∧ (U) ∧ (U) ∧ (U ∧ (((U) ∧ U) ∧ ((U) ∧ U) ∧ (.tup [.agg [.c (.sc (.int .u32 t17)), .c (.sc (.int .u32 a1)), .row 32 (.int .u32) a2], .one (.sc (.int .i64 (0 : Int)))] : Tm) = halterref25_Post.R r ∧ ([] : List Box) = [])))))))))))) ∧ (t18 = true → (t18 = true ∧ (t18 = true ∧ (t18 = true ∧ (t18 = true ∧ (true = true ∧ (U) ∧ (∃ t20 : Int, (Fun cfg 53 [.one (.sc (.int .u32 t17)), .one (.sc (.int .i64 a3))] [] (halterref03_Add.R t20) [] ∧ U) ∧ (U) ∧ (U ∧ (U) ∧ (U) ∧ (U ∧ (((U) ∧ U) ∧ ((U) ∧ U) ∧ (.tup [.agg [.c (.sc (.int .u32 t20)), .c (.sc (.int .u32 a1)), .row 32 (.int .u32) a2], .one (.sc (.int .i64 (0 : Int)))] : Tm) = halterref25_Post.R r ∧ ([] : List Box) = [])))))))))))))) ∧ ((a3 == (20 : Int)) = false → (U) ∧ (∃ t24 : Bool, (Fun cfg 51 [.one (.sc (.int .u32 a1)), .one (.sc (.int .i64 a3))] [] (halterref03_Has.R t24) [] ∧ U) ∧ ((t24 = false → (U) ∧ (t24 = false ∧ (t24 = false ∧ (∃ t27 : Int, (Fun cfg 52 [.agg [.c (.sc (.int .u32 t7)), .c (.sc (.int .u32 a1)), .row 32 (.int .u32) a2], .one (.sc (.int .i64 a3))] [] (halterref25_What.R t27) [] ∧ U) ∧ (t24 = false ∧ (U) ∧ (t24 = false ∧ (((decide (t27 > (0 : Int))) = true → (U) ∧ (∃ t29 : Int, (Fun cfg 53 [.one (.sc (.int .u32 t7)), .one (.sc (.int .i64 a3))] [] (halterref03_Add.R t29) [] ∧ U) ∧ (U) ∧ (U ∧ (U) ∧ (U) ∧ (U ∧ (((U) ∧ U) ∧ ((U) ∧ U) ∧ (.tup [.agg [.c (.sc (.int .u32 t29)), .c (.sc (.int .u32 a1)), .row 32 (.int .u32) a2], .one (.sc (.int .i64 (0 : Int)))] : Tm) = halterref25_Post.R r ∧ ([] : List Box) = []))))) ∧ ((decide (t27 > (0 : Int))) = false → (U ∧ (U ∧ (U) ∧ (U) ∧ (U ∧ (((U) ∧ U) ∧ ((U) ∧ U) ∧ (.tup [.agg [.c (.sc (.int .u32 t7)), .c (.sc (.int .u32 a1)), .row 32 (.int .u32) a2], .one (.sc (.int .i64 (0 : Int)))] : Tm) = halterref25_Post.R r ∧ ([] : List Box) = [])))))))))))) ∧ (t24 = true → (t24 = true ∧ (t24 = true ∧ (t24 = true ∧ (t24 = true ∧ (true = true ∧ (U) ∧ (∃ t26 : Int, (Fun cfg 53 [.one (.sc (.int .u32 t7)), .one (.sc (.int .i64 a3))] [] (halterref03_Add.R t26) [] ∧ U) ∧ (U) ∧ (U ∧ (U) ∧ (U) ∧ (U ∧ (((U) ∧ U) ∧ ((U) ∧ U) ∧ (.tup [.agg [.c (.sc (.int .u32 t26)), .c (.sc (.int .u32 a1)), .row 32 (.int .u32) a2], .one (.sc (.int .i64 (0 : Int)))] : Tm) = halterref25_Post.R r ∧ ([] : List Box) = []))))))))))))))))) ∧ ((a3 == (19 : Int)) = true → ((a3 == (19 : Int)) = true ∧ ((a3 == (19 : Int)) = true ∧ (true = true ∧ (U) ∧ (∃ t9 : Int, (Fun cfg 50 [.one (.sc (.int .u32 t7)), .one (.sc (.int .i64 (18 : Int)))] [] (halterref03_Del.R t9) [] ∧ U) ∧ (U) ∧ (U) ∧ (∃ t10 : Bool, (Fun cfg 51 [.one (.sc (.int .u32 a1)), .one (.sc (.int .i64 a3))] [] (halterref03_Has.R t10) [] ∧ U) ∧ ((t10 = false → (U) ∧ (t10 = false ∧ (t10 = false ∧ (∃ t13 : Int, (Fun cfg 52 [.agg [.c (.sc (.int .u32 t9)), .c (.sc (.int .u32 a1)), .row 32 (.int .u32) a2], .one (.sc (.int .i64 a3))] [] (halterref25_What.R t13) [] ∧ U) ∧ (t10 = false ∧ (U) ∧ (t10 = false ∧ (((decide (t13 > (0 : Int))) = true → (U) ∧ (∃ t15 : Int, (Fun cfg 53 [.one (.sc (.int .u32 t9)), .one (.sc (.int .i64 a3))] [] (halterref03_Add.R t15) [] ∧ U) ∧ (U) ∧ (U ∧ (U) ∧ (U) ∧ (U ∧ (((U) ∧ U) ∧ ((U) ∧ U) ∧ (.tup [.agg [.c (.sc (.int .u32 t15)), .c (.sc (.int .u32 a1)), .row 32 (.int .u32) a2], .one (.sc (.int .i64 (0 : Int)))] : Tm) = halterref25_Post.R r ∧ ([] : List Box) = []))))) ∧ ((decide (t13 > (0 : Int))) = false → (U ∧ (U ∧ (U) ∧ (U) ∧ (U ∧ (((U) ∧ U) ∧ ((U) ∧ U) ∧ (.tup [.agg [.c (.sc (.int .u32 t9)), .c (.sc (.int .u32 a1)), .row 32 (.int .u32) a2], .one (.sc (.int .i64 (0 : Int)))] : Tm) = halterref25_Post.R r ∧ ([] : List Box) = [])))))))))))) ∧ (t10 = true → (t10 = true ∧ (t10 = true ∧ (t10 = true ∧ (t10 = true ∧ (true = true ∧ (U) ∧ (∃ t12 : Int, (Fun cfg 53 [.one (.sc (.int .u32 t9)), .one (.sc (.int .i64 a3))] [] (halterref03_Add.R t12) [] ∧ U) ∧ (U) ∧ (U ∧ (U) ∧ (U) ∧ (U ∧ (((U) ∧ U) ∧ ((U) ∧ U) ∧ (.tup [.agg [.c (.sc (.int .u32 t12)), .c (.sc (.int .u32 a1)), .row 32 (.int .u32) a2], .one (.sc (.int .i64 (0 : Int)))] : Tm) = halterref25_Post.R r ∧ ([] : List Box) = []))))))))))))))))))))) ∧ ((a3 == (18 : Int)) = false → (U) ∧ (((a3 == (19 : Int)) = false → ((a3 == (19 : Int)) = false ∧ (U) ∧ ((a3 == (19 : Int)) = false ∧ (((a3 == (20 : Int)) = true → (U) ∧ (∃ t39 : Int, (Fun cfg 50 [.one (.sc (.int .u32 a0)), .one (.sc (.int .i64 (18 : Int)))] [] (halterref03_Del.R t39) [] ∧ U) ∧ (U) ∧ (U) ∧ (∃ t40 : Bool, (Fun cfg 51 [.one (.sc (.int .u32 a1)), .one (.sc (.int .i64 a3))] [] (halterref03_Has.R t40) [] ∧ U) ∧ ((t40 = false → (U) ∧ (t40 = false ∧ (t40 = false ∧ (∃ t43 : Int, (Fun cfg 52 [.agg [.c (.sc (.int .u32 t39)), .c (.sc (.int .u32 a1)), .row 32 (.int .u32) a2], .one (.sc (.int .i64 a3))] [] (halterref25_What.R t43) [] ∧ U) ∧ (t40 = false ∧ (U) ∧ (t40 = false ∧ (((decide (t43 > (0 : Int))) = true → (U) ∧ (∃ t45 : Int, (Fun cfg 53 [.one (.sc (.int .u32 t39)), .one (.sc (.int .i64 a3))] [] (halterref03_Add.R t45) [] ∧ U) ∧ (U) ∧ (U ∧ (U) ∧ (U) ∧ (U ∧ (((U) ∧ U) ∧ ((U) ∧ U) ∧ (.tup [.agg [.c (.sc (.int .u32 t45)), .c (.sc (.int .u32 a1)), .row 32 (.int .u32) a2], .one (.sc (.int .i64 (0 : Int)))] : Tm) = halterref25_Post.R r ∧ ([] : List Box) = []))))) ∧ ((decide (t43 > (0 : Int))) = false → (U ∧ (U ∧ (U) ∧ (U) ∧ (U ∧ (((U) ∧ U) ∧ ((U) ∧ U) ∧ (.tup [.agg [.c (.sc (.int .u32 t39)), .c (.sc (.int .u32 a1)), .row 32 (.int .u32) a2], .one (.sc (.int .i64 (0 : Int)))] : Tm) = halterref25_Post.R r ∧ ([] : List Box) = [])))))))))))) ∧ (t40 = true → (t40 = true ∧ (t40 = true ∧ (t40 = true ∧ (t40 = true ∧ (true = true ∧ (U) ∧ (∃ t42 : Int, (Fun cfg 53 [.one (.sc (.int .u32 t39)), .one (.sc (.int .i64 a3))] [] (halterref03_Add.R t42) [] ∧ U) ∧ (U) ∧ (U ∧ (U) ∧ (U) ∧ (U ∧ (((U) ∧ U) ∧ ((U) ∧ U) ∧ (.tup [.agg [.c (.sc (.int .u32 t42)), .c (.sc (.int .u32 a1)), .row 32 (.int .u32) a2], .one (.sc (.int .i64 (0 : Int)))] : Tm) = halterref25_Post.R r ∧ ([] : List Box) = [])))))))))))))) ∧ ((a3 == (20 : Int)) = false → (U) ∧ (∃ t46 : Bool, (Fun cfg 51 [.one (.sc (.int .u32 a1)), .one (.sc (.int .i64 a3))] [] (halterref03_Has.R t46) [] ∧ U) ∧ ((t46 = false → (U) ∧ (t46 = false ∧ (t46 = false ∧ (∃ t49 : Int, (Fun cfg 52 [.agg [.c (.sc (.int .u32 a0)), .c (.sc (.int .u32 a1)), .row 32 (.int .u32) a2], .one (.sc (.int .i64 a3))] [] (halterref25_What.R t49) [] ∧ U) ∧ (t46 = false ∧ (U) ∧ (t46 = false ∧ (((decide (t49 > (0 : Int))) = true → (U) ∧ (∃ t51 : Int, (Fun cfg 53 [.one (.sc (.int .u32 a0)), .one (.sc (.int .i64 a3))] [] (halterref03_Add.R t51) [] ∧ U) ∧ (U) ∧ (U ∧ (U) ∧ (U) ∧ (U ∧ (((U) ∧ U) ∧ ((U) ∧ U) ∧ (.tup [.agg [.c (.sc (.int .u32 t51)), .c (.sc (.int .u32 a1)), .row 32 (.int .u32) a2], .one (.sc (.int .i64 (0 : Int)))] : Tm) = halterref25_Post.R r ∧ ([] : List Box) = []))))) ∧ ((decide (t49 > (0 : Int))) = false → (U ∧ (U ∧ (U) ∧ (U) ∧ (U ∧ (((U) ∧ U) ∧ ((U) ∧ U) ∧ (.tup [.agg [.c (.sc (.int .u32 a0)), .c (.sc (.int .u32 a1)), .row 32 (.int .u32) a2], .one (.sc (.int .i64 (0 : Int)))] : Tm) = halterref25_Post.R r ∧ ([] : List Box) = [])))))))))))) ∧ (t46 = true → (t46 = true ∧ (t46 = true ∧ (t46 = true ∧ (t46 = true ∧ (true = true ∧ (U) ∧ (∃ t48 : Int, (Fun cfg 53 [.one (.sc (.int .u32 a0)), .one (.sc (.int .i64 a3))] [] (halterref03_Add.R t48) [] ∧ U) ∧ (U) ∧ (U ∧ (U) ∧ (U) ∧ (U ∧ (((U) ∧ U) ∧ ((U) ∧ U) ∧ (.tup [.agg [.c (.sc (.int .u32 t48)), .c (.sc (.int .u32 a1)), .row 32 (.int .u32) a2], .one (.sc (.int .i64 (0 : Int)))] : Tm) = halterref25_Post.R r ∧ ([] : List Box) = []))))))))))))))))) ∧ ((a3 == (19 : Int)) = true → ((a3 == (19 : Int)) = true ∧ ((a3 == (19 : Int)) = true ∧ (true = true ∧ (U) ∧ (∃ t31 : Int, (Fun cfg 50 [.one (.sc (.int .u32 a0)), .one (.sc (.int .i64 (18 : Int)))] [] (halterref03_Del.R t31) [] ∧ U) ∧ (U) ∧ (U) ∧ (∃ t32 : Bool, (Fun cfg 51 [.one (.sc (.int .u32 a1)), .one (.sc (.int .i64 a3))] [] (halterref03_Has.R t32) [] ∧ U) ∧ ((t32 = false → (U) ∧ (t32 = false ∧ (t32 = false ∧ (∃ t35 : Int, (Fun cfg 52 [.agg [.c (.sc (.int .u32 t31)), .c (.sc (.int .u32 a1)), .row 32 (.int .u32) a2], .one (.sc (.int .i64 a3))] [] (halterref25_What.R t35) [] ∧ U) ∧ (t32 = false ∧ (U) ∧ (t32 = false ∧ (((decide (t35 > (0 : Int))) = true → (U) ∧ (∃ t37 : Int, (Fun cfg 53 [.one (.sc (.int .u32 t31)), .one (.sc (.int .i64 a3))] [] (halterref03_Add.R t37) [] ∧ U) ∧ (U) ∧ (U ∧ (U) ∧ (U) ∧ (U ∧ (((U) ∧ U) ∧ ((U) ∧ U) ∧ (.tup [.agg [.c (.sc (.int .u32 t37)), .c (.sc (.int .u32 a1)), .row 32 (.int .u32) a2], .one (.sc (.int .i64 (0 : Int)))] : Tm) = halterref25_Post.R r ∧ ([] : List Box) = []))))) ∧ ((decide (t35 > (0 : Int))) = false → (U ∧ (U ∧ (U) ∧ (U) ∧ (U ∧ (((U) ∧ U) ∧ ((U) ∧ U) ∧ (.tup [.agg [.c (.sc (.int .u32 t31)), .c (.sc (.int .u32 a1)), .row 32 (.int .u32) a2], .one (.sc (.int .i64 (0 : Int)))] : Tm) = halterref25_Post.R r ∧ ([] : List Box) = [])))))))))))) ∧ (t32 = true → (t32 = true ∧ (t32 = true ∧ (t32 = true ∧ (t32 = true ∧ (true = true ∧ (U) ∧ (∃ t34 : Int, (Fun cfg 53 [.one (.sc (.int .u32 t31)), .one (.sc (.int .i64 a3))] [] (halterref03_Add.R t34) [] ∧ U) ∧ (U) ∧ (U ∧ (U) ∧ (U) ∧ (U ∧ (((U) ∧ U) ∧ ((U) ∧ U) ∧ (.tup [.agg [.c (.sc (.int .u32 t34)), .c (.sc (.int .u32 a1)), .row 32 (.int .u32) a2], .one (.sc (.int .i64 (0 : Int)))] : Tm) = halterref25_Post.R r ∧ ([] : List Box) = []))))))))))))))))))))))))) ∧ ((decide (a3 < (1 : Int))) = true → ((decide (a3 < (1 : Int))) = true ∧ ((decide (a3 < (1 : Int))) = true ∧ (true = true ∧ (U ∧ (U) ∧ (U ∧ (((U) ∧ U) ∧ ((U) ∧ U) ∧ (.tup [.agg [.c (.sc (.int .u32 (0 : Int))), .c (.sc (.int .u32 (0 : Int))), .row 32 (.int .u32) (List.replicate 32 (0 : Int))], .one (.sc (.int .i64 (22 : Int)))] : Tm) = halterref25_Post.R r ∧ ([] : List Box) = []))))))))))) ∧ ((!t1) = true → ((!t1) = true ∧ ((!t1) = true ∧ (true = true ∧ (true = true ∧ (true = true ∧ (true = true ∧ (U ∧ (U) ∧ (U ∧ (((U) ∧ U) ∧ ((U) ∧ U) ∧ (.tup [.agg [.c (.sc (.int .u32 (0 : Int))), .c (.sc (.int .u32 (0 : Int))), .row 32 (.int .u32) (List.replicate 32 (0 : Int))], .one (.sc (.int .i64 (22 : Int)))] : Tm) = halterref25_Post.R r ∧ ([] : List Box) = []))))))))))))) (by kernel_rfl) ?_)
  refine tI ?_
  obtain ⟨t1, ht1, h⟩ := of_bind h
  refine ⟨t1, ⟨halterref25_May.fun_ ht1, T⟩, ?_⟩
  refine ⟨fun b2 => ?_, fun b2 => ?_⟩
  · rw [if_neg (not_not_intro (not_f b2))] at h
    refine ⟨b2, ?_⟩
    refine tI ?_
    refine ⟨b2, ?_⟩
    refine ⟨fun b3 => ?_, fun b3 => ?_⟩
    · rw [if_neg (dF_ b3)] at h
      refine ⟨b3, ?_⟩
      refine tI ?_
      refine ⟨b3, ?_⟩
      refine ⟨fun b4 => ?_, fun b4 => ?_⟩
      · rw [if_pos (dT_ b4)] at h
        refine ⟨T, T, T, ?_⟩
        obtain rfl := oi h
        exact ⟨⟨T, T⟩, ⟨T, T⟩, rfl, rfl⟩
      · rw [if_neg (dF_ b4)] at h
        refine tI ?_
        refine ⟨fun b5 => ?_, fun b5 => ?_⟩
        · rw [if_pos (beq_t b5)] at h
          refine tI ?_
          obtain ⟨t6, ht6, h⟩ := of_bind h
          refine ⟨t6, ⟨halterref03_Del.fun_ ht6, T⟩, ?_⟩
          obtain ⟨t7, ht7, h⟩ := of_bind h
          refine ⟨t7, ⟨halterref03_Del.fun_ ht7, T⟩, ?_⟩
          refine ⟨T, T, ?_⟩
          refine ⟨fun b8 => ?_, fun b8 => ?_⟩
          · rw [if_neg (beq_f b8)] at h
            refine ⟨b8, ?_⟩
            refine tI ?_
            refine ⟨b8, ?_⟩
            refine ⟨fun b16 => ?_, fun b16 => ?_⟩
            · rw [if_pos (beq_t b16)] at h
              refine tI ?_
              obtain ⟨t17, ht17, h⟩ := of_bind h
              refine ⟨t17, ⟨halterref03_Del.fun_ ht17, T⟩, ?_⟩
              refine ⟨T, T, ?_⟩
              obtain ⟨t18, ht18, h⟩ := of_bind h
              refine ⟨t18, ⟨halterref03_Has.fun_ ht18, T⟩, ?_⟩
              refine ⟨fun b19 => ?_, fun b19 => ?_⟩
              · rw [if_neg (ff b19)] at h
                refine tI ?_
                refine ⟨b19, ?_⟩
                refine ⟨b19, ?_⟩
                obtain ⟨t21, ht21, h⟩ := of_bind h
                refine ⟨t21, ⟨halterref25_What.fun_ ht21, T⟩, ?_⟩
                refine ⟨b19, ?_⟩
                refine tI ?_
                refine ⟨b19, ?_⟩
                refine ⟨fun b22 => ?_, fun b22 => ?_⟩
                · rw [if_pos (dT_ b22)] at h
                  refine tI ?_
                  obtain ⟨t23, ht23, h⟩ := of_bind h
                  refine ⟨t23, ⟨halterref03_Add.fun_ ht23, T⟩, ?_⟩
                  refine ⟨T, T, T, T, T, ?_⟩
                  obtain rfl := oi h
                  exact ⟨⟨T, T⟩, ⟨T, T⟩, rfl, rfl⟩
                · rw [if_neg (dF_ b22)] at h
                  refine ⟨T, T, T, T, T, ?_⟩
                  obtain rfl := oi h
                  exact ⟨⟨T, T⟩, ⟨T, T⟩, rfl, rfl⟩
              · rw [if_pos b19] at h
                refine ⟨b19, ?_⟩
                refine ⟨b19, ?_⟩
                refine ⟨b19, ?_⟩
                refine ⟨b19, ?_⟩
                refine ⟨rfl, T, ?_⟩
                obtain ⟨t20, ht20, h⟩ := of_bind h
                refine ⟨t20, ⟨halterref03_Add.fun_ ht20, T⟩, ?_⟩
                refine ⟨T, T, T, T, T, ?_⟩
                obtain rfl := oi h
                exact ⟨⟨T, T⟩, ⟨T, T⟩, rfl, rfl⟩
            · rw [if_neg (beq_f b16)] at h
              refine tI ?_
              obtain ⟨t24, ht24, h⟩ := of_bind h
              refine ⟨t24, ⟨halterref03_Has.fun_ ht24, T⟩, ?_⟩
              refine ⟨fun b25 => ?_, fun b25 => ?_⟩
              · rw [if_neg (ff b25)] at h
                refine tI ?_
                refine ⟨b25, ?_⟩
                refine ⟨b25, ?_⟩
                obtain ⟨t27, ht27, h⟩ := of_bind h
                refine ⟨t27, ⟨halterref25_What.fun_ ht27, T⟩, ?_⟩
                refine ⟨b25, ?_⟩
                refine tI ?_
                refine ⟨b25, ?_⟩
                refine ⟨fun b28 => ?_, fun b28 => ?_⟩
                · rw [if_pos (dT_ b28)] at h
                  refine tI ?_
                  obtain ⟨t29, ht29, h⟩ := of_bind h
                  refine ⟨t29, ⟨halterref03_Add.fun_ ht29, T⟩, ?_⟩
                  refine ⟨T, T, T, T, T, ?_⟩
                  obtain rfl := oi h
                  exact ⟨⟨T, T⟩, ⟨T, T⟩, rfl, rfl⟩
                · rw [if_neg (dF_ b28)] at h
                  refine ⟨T, T, T, T, T, ?_⟩
                  obtain rfl := oi h
                  exact ⟨⟨T, T⟩, ⟨T, T⟩, rfl, rfl⟩
              · rw [if_pos b25] at h
                refine ⟨b25, ?_⟩
                refine ⟨b25, ?_⟩
                refine ⟨b25, ?_⟩
                refine ⟨b25, ?_⟩
                refine ⟨rfl, T, ?_⟩
                obtain ⟨t26, ht26, h⟩ := of_bind h
                refine ⟨t26, ⟨halterref03_Add.fun_ ht26, T⟩, ?_⟩
                refine ⟨T, T, T, T, T, ?_⟩
                obtain rfl := oi h
                exact ⟨⟨T, T⟩, ⟨T, T⟩, rfl, rfl⟩
          · rw [if_pos (beq_t b8)] at h
            refine ⟨b8, ?_⟩
            refine ⟨b8, ?_⟩
            refine ⟨rfl, T, ?_⟩
            obtain ⟨t9, ht9, h⟩ := of_bind h
            refine ⟨t9, ⟨halterref03_Del.fun_ ht9, T⟩, ?_⟩
            refine ⟨T, T, ?_⟩
            obtain ⟨t10, ht10, h⟩ := of_bind h
            refine ⟨t10, ⟨halterref03_Has.fun_ ht10, T⟩, ?_⟩
            refine ⟨fun b11 => ?_, fun b11 => ?_⟩
            · rw [if_neg (ff b11)] at h
              refine tI ?_
              refine ⟨b11, ?_⟩
              refine ⟨b11, ?_⟩
              obtain ⟨t13, ht13, h⟩ := of_bind h
              refine ⟨t13, ⟨halterref25_What.fun_ ht13, T⟩, ?_⟩
              refine ⟨b11, ?_⟩
              refine tI ?_
              refine ⟨b11, ?_⟩
              refine ⟨fun b14 => ?_, fun b14 => ?_⟩
              · rw [if_pos (dT_ b14)] at h
                refine tI ?_
                obtain ⟨t15, ht15, h⟩ := of_bind h
                refine ⟨t15, ⟨halterref03_Add.fun_ ht15, T⟩, ?_⟩
                refine ⟨T, T, T, T, T, ?_⟩
                obtain rfl := oi h
                exact ⟨⟨T, T⟩, ⟨T, T⟩, rfl, rfl⟩
              · rw [if_neg (dF_ b14)] at h
                refine ⟨T, T, T, T, T, ?_⟩
                obtain rfl := oi h
                exact ⟨⟨T, T⟩, ⟨T, T⟩, rfl, rfl⟩
            · rw [if_pos b11] at h
              refine ⟨b11, ?_⟩
              refine ⟨b11, ?_⟩
              refine ⟨b11, ?_⟩
              refine ⟨b11, ?_⟩
              refine ⟨rfl, T, ?_⟩
              obtain ⟨t12, ht12, h⟩ := of_bind h
              refine ⟨t12, ⟨halterref03_Add.fun_ ht12, T⟩, ?_⟩
              refine ⟨T, T, T, T, T, ?_⟩
              obtain rfl := oi h
              exact ⟨⟨T, T⟩, ⟨T, T⟩, rfl, rfl⟩
        · rw [if_neg (beq_f b5)] at h
          refine tI ?_
          refine ⟨fun b30 => ?_, fun b30 => ?_⟩
          · rw [if_neg (beq_f b30)] at h
            refine ⟨b30, ?_⟩
            refine tI ?_
            refine ⟨b30, ?_⟩
            refine ⟨fun b38 => ?_, fun b38 => ?_⟩
            · rw [if_pos (beq_t b38)] at h
              refine tI ?_
              obtain ⟨t39, ht39, h⟩ := of_bind h
              refine ⟨t39, ⟨halterref03_Del.fun_ ht39, T⟩, ?_⟩
              refine ⟨T, T, ?_⟩
              obtain ⟨t40, ht40, h⟩ := of_bind h
              refine ⟨t40, ⟨halterref03_Has.fun_ ht40, T⟩, ?_⟩
              refine ⟨fun b41 => ?_, fun b41 => ?_⟩
              · rw [if_neg (ff b41)] at h
                refine tI ?_
                refine ⟨b41, ?_⟩
                refine ⟨b41, ?_⟩
                obtain ⟨t43, ht43, h⟩ := of_bind h
                refine ⟨t43, ⟨halterref25_What.fun_ ht43, T⟩, ?_⟩
                refine ⟨b41, ?_⟩
                refine tI ?_
                refine ⟨b41, ?_⟩
                refine ⟨fun b44 => ?_, fun b44 => ?_⟩
                · rw [if_pos (dT_ b44)] at h
                  refine tI ?_
                  obtain ⟨t45, ht45, h⟩ := of_bind h
                  refine ⟨t45, ⟨halterref03_Add.fun_ ht45, T⟩, ?_⟩
                  refine ⟨T, T, T, T, T, ?_⟩
                  obtain rfl := oi h
                  exact ⟨⟨T, T⟩, ⟨T, T⟩, rfl, rfl⟩
                · rw [if_neg (dF_ b44)] at h
                  refine ⟨T, T, T, T, T, ?_⟩
                  obtain rfl := oi h
                  exact ⟨⟨T, T⟩, ⟨T, T⟩, rfl, rfl⟩
              · rw [if_pos b41] at h
                refine ⟨b41, ?_⟩
                refine ⟨b41, ?_⟩
                refine ⟨b41, ?_⟩
                refine ⟨b41, ?_⟩
                refine ⟨rfl, T, ?_⟩
                obtain ⟨t42, ht42, h⟩ := of_bind h
                refine ⟨t42, ⟨halterref03_Add.fun_ ht42, T⟩, ?_⟩
                refine ⟨T, T, T, T, T, ?_⟩
                obtain rfl := oi h
                exact ⟨⟨T, T⟩, ⟨T, T⟩, rfl, rfl⟩
            · rw [if_neg (beq_f b38)] at h
              refine tI ?_
              obtain ⟨t46, ht46, h⟩ := of_bind h
              refine ⟨t46, ⟨halterref03_Has.fun_ ht46, T⟩, ?_⟩
              refine ⟨fun b47 => ?_, fun b47 => ?_⟩
              · rw [if_neg (ff b47)] at h
                refine tI ?_
                refine ⟨b47, ?_⟩
                refine ⟨b47, ?_⟩
                obtain ⟨t49, ht49, h⟩ := of_bind h
                refine ⟨t49, ⟨halterref25_What.fun_ ht49, T⟩, ?_⟩
                refine ⟨b47, ?_⟩
                refine tI ?_
                refine ⟨b47, ?_⟩
                refine ⟨fun b50 => ?_, fun b50 => ?_⟩
                · rw [if_pos (dT_ b50)] at h
                  refine tI ?_
                  obtain ⟨t51, ht51, h⟩ := of_bind h
                  refine ⟨t51, ⟨halterref03_Add.fun_ ht51, T⟩, ?_⟩
                  refine ⟨T, T, T, T, T, ?_⟩
                  obtain rfl := oi h
                  exact ⟨⟨T, T⟩, ⟨T, T⟩, rfl, rfl⟩
                · rw [if_neg (dF_ b50)] at h
                  refine ⟨T, T, T, T, T, ?_⟩
                  obtain rfl := oi h
                  exact ⟨⟨T, T⟩, ⟨T, T⟩, rfl, rfl⟩
              · rw [if_pos b47] at h
                refine ⟨b47, ?_⟩
                refine ⟨b47, ?_⟩
                refine ⟨b47, ?_⟩
                refine ⟨b47, ?_⟩
                refine ⟨rfl, T, ?_⟩
                obtain ⟨t48, ht48, h⟩ := of_bind h
                refine ⟨t48, ⟨halterref03_Add.fun_ ht48, T⟩, ?_⟩
                refine ⟨T, T, T, T, T, ?_⟩
                obtain rfl := oi h
                exact ⟨⟨T, T⟩, ⟨T, T⟩, rfl, rfl⟩
          · rw [if_pos (beq_t b30)] at h
            refine ⟨b30, ?_⟩
            refine ⟨b30, ?_⟩
            refine ⟨rfl, T, ?_⟩
            obtain ⟨t31, ht31, h⟩ := of_bind h
            refine ⟨t31, ⟨halterref03_Del.fun_ ht31, T⟩, ?_⟩
            refine ⟨T, T, ?_⟩
            obtain ⟨t32, ht32, h⟩ := of_bind h
            refine ⟨t32, ⟨halterref03_Has.fun_ ht32, T⟩, ?_⟩
            refine ⟨fun b33 => ?_, fun b33 => ?_⟩
            · rw [if_neg (ff b33)] at h
              refine tI ?_
              refine ⟨b33, ?_⟩
              refine ⟨b33, ?_⟩
              obtain ⟨t35, ht35, h⟩ := of_bind h
              refine ⟨t35, ⟨halterref25_What.fun_ ht35, T⟩, ?_⟩
              refine ⟨b33, ?_⟩
              refine tI ?_
              refine ⟨b33, ?_⟩
              refine ⟨fun b36 => ?_, fun b36 => ?_⟩
              · rw [if_pos (dT_ b36)] at h
                refine tI ?_
                obtain ⟨t37, ht37, h⟩ := of_bind h
                refine ⟨t37, ⟨halterref03_Add.fun_ ht37, T⟩, ?_⟩
                refine ⟨T, T, T, T, T, ?_⟩
                obtain rfl := oi h
                exact ⟨⟨T, T⟩, ⟨T, T⟩, rfl, rfl⟩
              · rw [if_neg (dF_ b36)] at h
                refine ⟨T, T, T, T, T, ?_⟩
                obtain rfl := oi h
                exact ⟨⟨T, T⟩, ⟨T, T⟩, rfl, rfl⟩
            · rw [if_pos b33] at h
              refine ⟨b33, ?_⟩
              refine ⟨b33, ?_⟩
              refine ⟨b33, ?_⟩
              refine ⟨b33, ?_⟩
              refine ⟨rfl, T, ?_⟩
              obtain ⟨t34, ht34, h⟩ := of_bind h
              refine ⟨t34, ⟨halterref03_Add.fun_ ht34, T⟩, ?_⟩
              refine ⟨T, T, T, T, T, ?_⟩
              obtain rfl := oi h
              exact ⟨⟨T, T⟩, ⟨T, T⟩, rfl, rfl⟩
    · rw [if_pos (dT_ b3)] at h
      refine ⟨b3, ?_⟩
      refine ⟨b3, ?_⟩
      refine ⟨rfl, T, T, T, ?_⟩
      obtain rfl := oi h
      exact ⟨⟨T, T⟩, ⟨T, T⟩, rfl, rfl⟩
  · rw [if_pos (ff (not_t b2))] at h
    refine ⟨b2, ?_⟩
    refine ⟨b2, ?_⟩
    refine ⟨rfl, rfl, rfl, rfl, T, T, T, ?_⟩
    obtain rfl := oi h
    exact ⟨⟨T, T⟩, ⟨T, T⟩, rfl, rfl⟩
/-! halter/halterref33.Post -/
def halterref33_Post.c0 : AV := .agg [.c (.sc (.int .i64 (0 : Int))), .c (.sc (.int .i64 (0 : Int))), .c (.sc (.string ByteArray.empty)), .row 16 (.int .u32) (List.replicate 16 (0 : Int)), .c (.sc (.int .u32 (0 : Int))), .c (.sc (.int .u32 (0 : Int))), .row 4 (.int .u64) (List.replicate 4 (0 : Int)), .row 8 (.int .i64) (List.replicate 8 (0 : Int)), .c (.sc (.int .u32 (0 : Int))), .c (.sc (.int .u32 (0 : Int))), .row 32 (.int .u32) (List.replicate 32 (0 : Int)), .c (.sc (.int .i64 (0 : Int))), .c (.sc (.bool false)), .c (.sc (.int .u32 (0 : Int))), .c (.sc (.int .i64 (0 : Int))), .c (.sc (.int .i64 (0 : Int))), .c (.sc (.bool false)), .c (.sc (.bool false)), .c (.sc (.bool false)), .c (.sc (.int .i64 (0 : Int))), .c (.sc (.int .i64 (0 : Int)))]
def halterref33_Post.c1 (a0 : Int) (a1 : Int) (a2 : ByteArray) (a3 : (List Int)) (a4 : Int) (a5 : Int) (a6 : (List Int)) (a7 : (List Int)) (t3 : Int × Int × (List Int) × Int) (a11 : Int) (a12 : Bool) (a13 : Int) (a14 : Int) (a15 : Int) (a16 : Bool) (a19 : Int) (a20 : Int) : AV := .agg [.c (.sc (.int .i64 a0)), .c (.sc (.int .i64 a1)), .c (.sc (.string a2)), .row 16 (.int .u32) a3, .c (.sc (.int .u32 a4)), .c (.sc (.int .u32 a5)), .row 4 (.int .u64) a6, .row 8 (.int .i64) a7, .c (.sc (.int .u32 t3.1)), .c (.sc (.int .u32 t3.2.1)), .row 32 (.int .u32) (p2 t3), .c (.sc (.int .i64 a11)), .c (.sc (.bool a12)), .c (.sc (.int .u32 a13)), .c (.sc (.int .i64 a14)), .c (.sc (.int .i64 a15)), .c (.sc (.bool a16)), .c (.sc (.bool false)), .c (.sc (.bool false)), .c (.sc (.int .i64 a19)), .c (.sc (.int .i64 a20))]
def halterref33_Post.f (a0 : Int) (a1 : Int) (a2 : ByteArray) (a3 : (List Int)) (a4 : Int) (a5 : Int) (a6 : (List Int)) (a7 : (List Int)) (a8 : Int) (a9 : Int) (a10 : (List Int)) (a11 : Int) (a12 : Bool) (a13 : Int) (a14 : Int) (a15 : Int) (a16 : Bool) (a17 : Bool) (a18 : Bool) (a19 : Int) (a20 : Int) (a21 : Int) : Option (TY2) :=
  (halterref33_May.f a0 a1 a2 a3 a4 a5 a6 a7 a8 a9 a10 a11 a12 a13 a14 a15 a16 a17 a18 a19 a20).bind fun t1 =>
  if ¬ (t1 = true) then
    some ((0 : Int), (0 : Int), ByteArray.empty, (List.replicate 16 (0 : Int)), (0 : Int), (0 : Int), (List.replicate 4 (0 : Int)), (List.replicate 8 (0 : Int)), (0 : Int), (0 : Int), (List.replicate 32 (0 : Int)), (0 : Int), false, (0 : Int), (0 : Int), (0 : Int), false, false, false, (0 : Int), (0 : Int), (22 : Int))
  else
    (halterref25_Post.f a8 a9 a10 a21).bind fun t3 =>
    if ¬ t3.2.2.2 = (0 : Int) then
      some ((0 : Int), (0 : Int), ByteArray.empty, (List.replicate 16 (0 : Int)), (0 : Int), (0 : Int), (List.replicate 4 (0 : Int)), (List.replicate 8 (0 : Int)), (0 : Int), (0 : Int), (List.replicate 32 (0 : Int)), (0 : Int), false, (0 : Int), (0 : Int), (0 : Int), false, false, false, (0 : Int), (0 : Int), t3.2.2.2)
    else
      if a21 = (18 : Int) then
        some (a0, a1, a2, a3, a4, a5, a6, a7, t3.1, t3.2.1, t3.2.2.1, a11, a12, a13, a14, a15, a16, false, false, a19, a20, (0 : Int))
      else
        if a21 = (9 : Int) then
          some (a0, a1, a2, a3, a4, a5, a6, a7, t3.1, t3.2.1, t3.2.2.1, a11, a12, a13, a14, a15, a16, false, false, a19, a20, (0 : Int))
        else
          some (a0, a1, a2, a3, a4, a5, a6, a7, t3.1, t3.2.1, t3.2.2.1, a11, a12, a13, a14, a15, a16, a17, a18, a19, a20, (0 : Int))
def halterref33_Post.R (r : TY2) : Tm := .tup [.agg [.c (.sc (.int .i64 r.1)), .c (.sc (.int .i64 r.2.1)), .c (.sc (.string r.2.2.1)), .row 16 (.int .u32) r.2.2.2.1, .c (.sc (.int .u32 r.2.2.2.2.1)), .c (.sc (.int .u32 r.2.2.2.2.2.1)), .row 4 (.int .u64) r.2.2.2.2.2.2.1, .row 8 (.int .i64) r.2.2.2.2.2.2.2.1, .c (.sc (.int .u32 r.2.2.2.2.2.2.2.2.1)), .c (.sc (.int .u32 r.2.2.2.2.2.2.2.2.2.1)), .row 32 (.int .u32) r.2.2.2.2.2.2.2.2.2.2.1, .c (.sc (.int .i64 r.2.2.2.2.2.2.2.2.2.2.2.1)), .c (.sc (.bool r.2.2.2.2.2.2.2.2.2.2.2.2.1)), .c (.sc (.int .u32 r.2.2.2.2.2.2.2.2.2.2.2.2.2.1)), .c (.sc (.int .i64 r.2.2.2.2.2.2.2.2.2.2.2.2.2.2.1)), .c (.sc (.int .i64 r.2.2.2.2.2.2.2.2.2.2.2.2.2.2.2.1)), .c (.sc (.bool r.2.2.2.2.2.2.2.2.2.2.2.2.2.2.2.2.1)), .c (.sc (.bool r.2.2.2.2.2.2.2.2.2.2.2.2.2.2.2.2.2.1)), .c (.sc (.bool r.2.2.2.2.2.2.2.2.2.2.2.2.2.2.2.2.2.2.1)), .c (.sc (.int .i64 r.2.2.2.2.2.2.2.2.2.2.2.2.2.2.2.2.2.2.2.1)), .c (.sc (.int .i64 r.2.2.2.2.2.2.2.2.2.2.2.2.2.2.2.2.2.2.2.2.1))], .one (.sc (.int .i64 r.2.2.2.2.2.2.2.2.2.2.2.2.2.2.2.2.2.2.2.2.2))]
theorem halterref33_Post.fun_ {a0 : Int} {a1 : Int} {a2 : ByteArray} {a3 : (List Int)} {a4 : Int} {a5 : Int} {a6 : (List Int)} {a7 : (List Int)} {a8 : Int} {a9 : Int} {a10 : (List Int)} {a11 : Int} {a12 : Bool} {a13 : Int} {a14 : Int} {a15 : Int} {a16 : Bool} {a17 : Bool} {a18 : Bool} {a19 : Int} {a20 : Int} {a21 : Int} {r : TY2} (h : halterref33_Post.f a0 a1 a2 a3 a4 a5 a6 a7 a8 a9 a10 a11 a12 a13 a14 a15 a16 a17 a18 a19 a20 a21 = some r) : Fun cfg 11 [.agg [.c (.sc (.int .i64 a0)), .c (.sc (.int .i64 a1)), .c (.sc (.string a2)), .row 16 (.int .u32) a3, .c (.sc (.int .u32 a4)), .c (.sc (.int .u32 a5)), .row 4 (.int .u64) a6, .row 8 (.int .i64) a7, .c (.sc (.int .u32 a8)), .c (.sc (.int .u32 a9)), .row 32 (.int .u32) a10, .c (.sc (.int .i64 a11)), .c (.sc (.bool a12)), .c (.sc (.int .u32 a13)), .c (.sc (.int .i64 a14)), .c (.sc (.int .i64 a15)), .c (.sc (.bool a16)), .c (.sc (.bool a17)), .c (.sc (.bool a18)), .c (.sc (.int .i64 a19)), .c (.sc (.int .i64 a20))], .one (.sc (.int .i64 a21))] [] (halterref33_Post.R r) [] := by
  unfold halterref33_Post.f at h
  refine fun_of_run cfg_ok (f := 11) (fn := Tryz.f11) Tryz.func11 rfl (by kernel_rfl) (rs := [.cell 4 35, .tmp 5]) rfl (nt := 34) rfl (l := fin) (k := (.call true [] (Bool) halterref33_May.R (fun t1 => (.br (aE 2 (.adj [.drop 0] .nil)) (.call true [] (Int × Int × (List Int) × Int) halterref25_Post.R (fun t3 => (.br (aE 2 (.adj [.drop 0] .nil)) (.br (oT 3 (aE 4 (.adj [.drop 0] .nil))) (oF 2 (.br (aE 4 (.adj [.drop 0] .nil)) (aE 3 (.adj [.drop 0] .nil)))))))))))) (to_goal (q := (U) ∧ (∃ t1 : Bool, (Fun cfg 21 [.agg [.c (.sc (.int .i64 a0)), .c (.sc (.int .i64 a1)), .c (.sc (.string a2)), .row 16 (.int .u32) a3, .c (.sc (.int .u32 a4)), .c (.sc (.int .u32 a5)), .row 4 (.int .u64) a6, .row 8 (.int .i64) a7, .c (.sc (.int .u32 a8)), .c (.sc (.int .u32 a9)), .row 32 (.int .u32) a10, .c (.sc (.int .i64 a11)), .c (.sc (.bool a12)), .c (.sc (.int .u32 a13)), .c (.sc (.int .i64 a14)), .c (.sc (.int .i64 a15)), .c (.sc (.bool a16)), .c (.sc (.bool a17)), .c (.sc (.bool a18)), .c (.sc (.int .i64 a19)), .c (.sc (.int .i64 a20))]] [] (halterref33_May.R t1) [] ∧ U) ∧ (((!t1) = true → (U ∧ (U) ∧ (U ∧ (((U) ∧ U) ∧ ((U) ∧ U) ∧ (.tup [halterref33_Post.c0, .one (.sc (.int .i64 (22 : Int)))] : Tm) = halterref33_Post.R r ∧ ([] : List Box) = [])))) ∧ ((!t1) = false → (U) ∧ (∃ t3 : Int × Int × (List Int) × Int, (Fun cfg 32 [.agg [.c (.sc (.int .u32 a8)), .c (.sc (.int .u32 a9)), .row 32 (.int .u32) a10], .one (.sc (.int .i64 a21))] [] (halterref25_Post.R t3) [] ∧ U) ∧ (U) ∧ (U) ∧ ((((z3 t3) != (0 : Int)) = true → (U ∧ (U) ∧ (U ∧ (((U) ∧ U) ∧ ((U) ∧ U) ∧ (.tup [halterref33_Post.c0, .one (.sc (.int .i64 (z3 t3)))] : Tm) = halterref33_Post.R r ∧ ([] : List Box) = [])))) ∧ (((z3 t3) != (0 : Int)) = false → (U) ∧ (U) ∧ (U) ∧ (((a21 == (18 : Int)) = false → ((a21 == (18 : Int)) = false ∧ (U) ∧ ((a21 == (18 : Int)) = false ∧ (((a21 == (9 : Int)) = true → (U ∧ (U) ∧ (U ∧ (U) ∧ (U ∧ (U) ∧ (U) ∧ (U ∧ (((U) ∧ U) ∧ ((U) ∧ U) ∧ (.tup [(halterref33_Post.c1 a0 a1 a2 a3 a4 a5 a6 a7 t3 a11 a12 a13 a14 a15 a16 a19 a20), .one (.sc (.int .i64 (0 : Int)))] : Tm) = halterref33_Post.R r ∧ ([] : List Box) = [])))))) ∧ ((a21 == (9 : Int)) = false → (U ∧ (U ∧ (U) ∧ (U) ∧ (U ∧ (((U) ∧ U) ∧ ((U) ∧ U) ∧ (.tup [.agg [.c (.sc (.int .i64 a0)), .c (.sc (.int .i64 a1)), .c (.sc (.string a2)), .row 16 (.int .u32) a3, .c (.sc (.int .u32 a4)), .c (.sc (.int .u32 a5)), .row 4 (.int .u64) a6, .row 8 (.int .i64) a7, .c (.sc (.int .u32 t3.1)), .c (.sc (.int .u32 t3.2.1)), .row 32 (.int .u32) (p2 t3), .c (.sc (.int .i64 a11)), .c (.sc (.bool a12)), .c (.sc (.int .u32 a13)), .c (.sc (.int .i64 a14)), .c (.sc (.int .i64 a15)), .c (.sc (.bool a16)), .c (.sc (.bool a17)), .c (.sc (.bool a18)), .c (.sc (.int .i64 a19)), .c (.sc (.int .i64 a20))], .one (.sc (.int .i64 (0 : Int)))] : Tm) = halterref33_Post.R r ∧ ([] : List Box) = []))))))))) ∧ ((a21 == (18 : Int)) = true → ((a21 == (18 : Int)) = true ∧ ((a21 == (18 : Int)) = true ∧ (true = true ∧ (U ∧ (U) ∧ (U ∧ (U) ∧ (U ∧ (U) ∧ (U) ∧ (U ∧ (((U) ∧ U) ∧ ((U) ∧ U) ∧ (.tup [(halterref33_Post.c1 a0 a1 a2 a3 a4 a5 a6 a7 t3 a11 a12 a13 a14 a15 a16 a19 a20), .one (.sc (.int .i64 (0 : Int)))] : Tm) = halterref33_Post.R r ∧ ([] : List Box) = []))))))))))))))))) (by kernel_rfl) ?_)
  refine tI ?_
  obtain ⟨t1, ht1, h⟩ := of_bind h
  refine ⟨t1, ⟨halterref33_May.fun_ ht1, T⟩, ?_⟩
  refine ⟨fun b2 => ?_, fun b2 => ?_⟩
  · rw [if_pos (ff (not_t b2))] at h
    refine ⟨T, T, T, ?_⟩
    obtain rfl := oi h
    exact ⟨⟨T, T⟩, ⟨T, T⟩, rfl, rfl⟩
  · rw [if_neg (not_not_intro (not_f b2))] at h
    refine tI ?_
    obtain ⟨t3, ht3, h⟩ := of_bind h
    refine ⟨t3, ⟨halterref25_Post.fun_ ht3, T⟩, ?_⟩
    refine ⟨T, T, ?_⟩
    refine ⟨fun b4 => ?_, fun b4 => ?_⟩
    · rw [if_pos (bne_t b4)] at h
      refine ⟨T, T, T, ?_⟩
      obtain rfl := oi h
      exact ⟨⟨T, T⟩, ⟨T, T⟩, rfl, rfl⟩
    · rw [if_neg (not_not_intro (bne_f b4))] at h
      refine ⟨T, T, T, ?_⟩
      refine ⟨fun b5 => ?_, fun b5 => ?_⟩
      · rw [if_neg (beq_f b5)] at h
        refine ⟨b5, ?_⟩
        refine tI ?_
        refine ⟨b5, ?_⟩
        refine ⟨fun b6 => ?_, fun b6 => ?_⟩
        · rw [if_pos (beq_t b6)] at h
          refine ⟨T, T, T, T, T, T, T, T, ?_⟩
          obtain rfl := oi h
          exact ⟨⟨T, T⟩, ⟨T, T⟩, rfl, rfl⟩
        · rw [if_neg (beq_f b6)] at h
          refine ⟨T, T, T, T, T, ?_⟩
          obtain rfl := oi h
          exact ⟨⟨T, T⟩, ⟨T, T⟩, rfl, rfl⟩
      · rw [if_pos (beq_t b5)] at h
        refine ⟨b5, ?_⟩
        refine ⟨b5, ?_⟩
        refine ⟨rfl, T, T, T, T, T, T, T, T, ?_⟩
        obtain rfl := oi h
        exact ⟨⟨T, T⟩, ⟨T, T⟩, rfl, rfl⟩
/-! halter/halterref33.First -/
def halterref33_First.c0 : AV := .agg [.c (.sc (.int .i64 (0 : Int))), .c (.sc (.int .i64 (0 : Int))), .c (.sc (.string ByteArray.empty)), .row 16 (.int .u32) (List.replicate 16 (0 : Int)), .c (.sc (.int .u32 (0 : Int))), .c (.sc (.int .u32 (0 : Int))), .row 4 (.int .u64) (List.replicate 4 (0 : Int)), .row 8 (.int .i64) (List.replicate 8 (0 : Int)), .c (.sc (.int .u32 (0 : Int))), .c (.sc (.int .u32 (0 : Int))), .row 32 (.int .u32) (List.replicate 32 (0 : Int)), .c (.sc (.int .i64 (0 : Int))), .c (.sc (.bool false)), .c (.sc (.int .u32 (0 : Int))), .c (.sc (.int .i64 (0 : Int))), .c (.sc (.int .i64 (0 : Int))), .c (.sc (.bool false)), .c (.sc (.bool false)), .c (.sc (.bool false)), .c (.sc (.int .i64 (0 : Int))), .c (.sc (.int .i64 (0 : Int)))]
def halterref33_First.f (a0 : Int) (a1 : ByteArray) (a2 : Int) : Option (TY2) :=
  if a0 < (1 : Int) then
    some ((0 : Int), (0 : Int), ByteArray.empty, (List.replicate 16 (0 : Int)), (0 : Int), (0 : Int), (List.replicate 4 (0 : Int)), (List.replicate 8 (0 : Int)), (0 : Int), (0 : Int), (List.replicate 32 (0 : Int)), (0 : Int), false, (0 : Int), (0 : Int), (0 : Int), false, false, false, (0 : Int), (0 : Int), (22 : Int))
  else
    if a0 > (99 : Int) then
      some ((0 : Int), (0 : Int), ByteArray.empty, (List.replicate 16 (0 : Int)), (0 : Int), (0 : Int), (List.replicate 4 (0 : Int)), (List.replicate 8 (0 : Int)), (0 : Int), (0 : Int), (List.replicate 32 (0 : Int)), (0 : Int), false, (0 : Int), (0 : Int), (0 : Int), false, false, false, (0 : Int), (0 : Int), (22 : Int))
    else
      (halterref16_Check.f a1).bind fun t3 =>
      if ¬ t3 = (0 : Int) then
        some ((0 : Int), (0 : Int), ByteArray.empty, (List.replicate 16 (0 : Int)), (0 : Int), (0 : Int), (List.replicate 4 (0 : Int)), (List.replicate 8 (0 : Int)), (0 : Int), (0 : Int), (List.replicate 32 (0 : Int)), (0 : Int), false, (0 : Int), (0 : Int), (0 : Int), false, false, false, (0 : Int), (0 : Int), (22 : Int))
      else
        (halterref33_Begun.f a2).bind fun t5 =>
        some (a0, (0 : Int), a1, t5.1, t5.2.1, t5.2.2.1, t5.2.2.2, (List.replicate 8 (0 : Int)), (0 : Int), (0 : Int), (List.replicate 32 (0 : Int)), (0 : Int), false, (0 : Int), (0 : Int), (0 : Int), false, false, false, (0 : Int), (0 : Int), (0 : Int))
def halterref33_First.R (r : TY2) : Tm := .tup [.agg [.c (.sc (.int .i64 r.1)), .c (.sc (.int .i64 r.2.1)), .c (.sc (.string r.2.2.1)), .row 16 (.int .u32) r.2.2.2.1, .c (.sc (.int .u32 r.2.2.2.2.1)), .c (.sc (.int .u32 r.2.2.2.2.2.1)), .row 4 (.int .u64) r.2.2.2.2.2.2.1, .row 8 (.int .i64) r.2.2.2.2.2.2.2.1, .c (.sc (.int .u32 r.2.2.2.2.2.2.2.2.1)), .c (.sc (.int .u32 r.2.2.2.2.2.2.2.2.2.1)), .row 32 (.int .u32) r.2.2.2.2.2.2.2.2.2.2.1, .c (.sc (.int .i64 r.2.2.2.2.2.2.2.2.2.2.2.1)), .c (.sc (.bool r.2.2.2.2.2.2.2.2.2.2.2.2.1)), .c (.sc (.int .u32 r.2.2.2.2.2.2.2.2.2.2.2.2.2.1)), .c (.sc (.int .i64 r.2.2.2.2.2.2.2.2.2.2.2.2.2.2.1)), .c (.sc (.int .i64 r.2.2.2.2.2.2.2.2.2.2.2.2.2.2.2.1)), .c (.sc (.bool r.2.2.2.2.2.2.2.2.2.2.2.2.2.2.2.2.1)), .c (.sc (.bool r.2.2.2.2.2.2.2.2.2.2.2.2.2.2.2.2.2.1)), .c (.sc (.bool r.2.2.2.2.2.2.2.2.2.2.2.2.2.2.2.2.2.2.1)), .c (.sc (.int .i64 r.2.2.2.2.2.2.2.2.2.2.2.2.2.2.2.2.2.2.2.1)), .c (.sc (.int .i64 r.2.2.2.2.2.2.2.2.2.2.2.2.2.2.2.2.2.2.2.2.1))], .one (.sc (.int .i64 r.2.2.2.2.2.2.2.2.2.2.2.2.2.2.2.2.2.2.2.2.2))]
theorem halterref33_First.fun_ {a0 : Int} {a1 : ByteArray} {a2 : Int} {r : TY2} (h : halterref33_First.f a0 a1 a2 = some r) : Fun cfg 13 [.one (.sc (.int .i64 a0)), .one (.sc (.string a1)), .one (.sc (.int .u32 a2))] [] (halterref33_First.R r) [] := by
  unfold halterref33_First.f at h
  refine fun_of_run cfg_ok (f := 13) (fn := Tryz.f13) Tryz.func13 rfl (by kernel_rfl) (rs := [.cell 6 35, .tmp 7]) rfl (nt := 25) rfl (l := fin) (k := (.br (oT 7 (aE 2 (.adj [.drop 0] .nil))) (oF 2 (.br (oT 4 (aE 2 (.adj [.drop 0] .nil))) (.one false (.call true [] (Int) halterref16_Check.R (fun t3 => (oF 2 (.br (aE 2 (.adj [.drop 0] .nil)) (.call true [] ((List Int) × Int × Int × (List Int)) halterref33_Begun.R (fun t5 => (.adj [] (.adj [.drop 0] .nil))))))))))))) (to_goal (q := (U) ∧ (((decide (a0 < (1 : Int))) = false → ((decide (a0 < (1 : Int))) = false ∧ (U) ∧ ((decide (a0 < (1 : Int))) = false ∧ (((decide (a0 > (99 : Int))) = false → ((decide (a0 > (99 : Int))) = false ∧ (∃ t3 : Int, (Fun cfg 28 [.one (.sc (.string a1))] [] (halterref16_Check.R t3) [] ∧ U) ∧ ((decide (a0 > (99 : Int))) = false ∧ (U) ∧ ((decide (a0 > (99 : Int))) = false ∧ (((t3 != (0 : Int)) = true → (U ∧ (U) ∧ (U ∧ (((U) ∧ U) ∧ ((U) ∧ U) ∧ (.tup [halterref33_First.c0, .one (.sc (.int .i64 (22 : Int)))] : Tm) = halterref33_First.R r ∧ ([] : List Box) = [])))) ∧ ((t3 != (0 : Int)) = false → (∃ t5 : (List Int) × Int × Int × (List Int), (Fun cfg 29 [.one (.sc (.int .u32 a2))] [] (halterref33_Begun.R t5) [] ∧ U) ∧ (U) ∧ (U ∧ (((U) ∧ U) ∧ ((U) ∧ U) ∧ (.tup [.agg [.c (.sc (.int .i64 a0)), .c (.sc (.int .i64 (0 : Int))), .c (.sc (.string a1)), .row 16 (.int .u32) t5.1, .c (.sc (.int .u32 t5.2.1)), .c (.sc (.int .u32 (p2 t5))), .row 4 (.int .u64) (z3 t5), .row 8 (.int .i64) (List.replicate 8 (0 : Int)), .c (.sc (.int .u32 (0 : Int))), .c (.sc (.int .u32 (0 : Int))), .row 32 (.int .u32) (List.replicate 32 (0 : Int)), .c (.sc (.int .i64 (0 : Int))), .c (.sc (.bool false)), .c (.sc (.int .u32 (0 : Int))), .c (.sc (.int .i64 (0 : Int))), .c (.sc (.int .i64 (0 : Int))), .c (.sc (.bool false)), .c (.sc (.bool false)), .c (.sc (.bool false)), .c (.sc (.int .i64 (0 : Int))), .c (.sc (.int .i64 (0 : Int)))], .one (.sc (.int .i64 (0 : Int)))] : Tm) = halterref33_First.R r ∧ ([] : List Box) = [])))))))))) ∧ ((decide (a0 > (99 : Int))) = true → ((decide (a0 > (99 : Int))) = true ∧ ((decide (a0 > (99 : Int))) = true ∧ ((decide (a0 > (99 : Int))) = true ∧ (true = true ∧ (U ∧ (U) ∧ (U ∧ (((U) ∧ U) ∧ ((U) ∧ U) ∧ (.tup [halterref33_First.c0, .one (.sc (.int .i64 (22 : Int)))] : Tm) = halterref33_First.R r ∧ ([] : List Box) = [])))))))))))) ∧ ((decide (a0 < (1 : Int))) = true → ((decide (a0 < (1 : Int))) = true ∧ ((decide (a0 < (1 : Int))) = true ∧ (true = true ∧ (true = true ∧ (true = true ∧ (true = true ∧ (true = true ∧ (U ∧ (U) ∧ (U ∧ (((U) ∧ U) ∧ ((U) ∧ U) ∧ (.tup [halterref33_First.c0, .one (.sc (.int .i64 (22 : Int)))] : Tm) = halterref33_First.R r ∧ ([] : List Box) = []))))))))))))) (by kernel_rfl) ?_)
  refine tI ?_
  refine ⟨fun b1 => ?_, fun b1 => ?_⟩
  · rw [if_neg (dF_ b1)] at h
    refine ⟨b1, ?_⟩
    refine tI ?_
    refine ⟨b1, ?_⟩
    refine ⟨fun b2 => ?_, fun b2 => ?_⟩
    · rw [if_neg (dF_ b2)] at h
      refine ⟨b2, ?_⟩
      obtain ⟨t3, ht3, h⟩ := of_bind h
      refine ⟨t3, ⟨halterref16_Check.fun_ ht3, T⟩, ?_⟩
      refine ⟨b2, ?_⟩
      refine tI ?_
      refine ⟨b2, ?_⟩
      refine ⟨fun b4 => ?_, fun b4 => ?_⟩
      · rw [if_pos (bne_t b4)] at h
        refine ⟨T, T, T, ?_⟩
        obtain rfl := oi h
        exact ⟨⟨T, T⟩, ⟨T, T⟩, rfl, rfl⟩
      · rw [if_neg (not_not_intro (bne_f b4))] at h
        obtain ⟨t5, ht5, h⟩ := of_bind h
        refine ⟨t5, ⟨halterref33_Begun.fun_ ht5, T⟩, ?_⟩
        refine ⟨T, T, ?_⟩
        obtain rfl := oi h
        exact ⟨⟨T, T⟩, ⟨T, T⟩, rfl, rfl⟩
    · rw [if_pos (dT_ b2)] at h
      refine ⟨b2, ?_⟩
      refine ⟨b2, ?_⟩
      refine ⟨b2, ?_⟩
      refine ⟨rfl, T, T, T, ?_⟩
      obtain rfl := oi h
      exact ⟨⟨T, T⟩, ⟨T, T⟩, rfl, rfl⟩
  · rw [if_pos (dT_ b1)] at h
    refine ⟨b1, ?_⟩
    refine ⟨b1, ?_⟩
    refine ⟨rfl, rfl, rfl, rfl, rfl, T, T, T, ?_⟩
    obtain rfl := oi h
    exact ⟨⟨T, T⟩, ⟨T, T⟩, rfl, rfl⟩
/-! halter/halterref33.Answer -/
def halterref33_Answer.f (a0 : Int) (a1 : Int) (a2 : ByteArray) (a3 : (List Int)) (a4 : Int) (a5 : Int) (a6 : (List Int)) (a7 : (List Int)) (a8 : Int) (a9 : Int) (a10 : (List Int)) (a11 : Int) (a12 : Bool) (a13 : Int) (a14 : Int) (a15 : Int) (a16 : Bool) (a17 : Bool) (a18 : Bool) (a19 : Int) (a20 : Int) (a21 : Int) : Option (TY0) :=
  some (a0, a1, a2, (List.set a3 0 a21), a4, a5, a6, a7, a8, a9, a10, a11, a12, a13, a14, a15, a16, a17, a18, (0 : Int), a20)
def halterref33_Answer.R (r : TY0) : Tm := .v (.agg [.c (.sc (.int .i64 r.1)), .c (.sc (.int .i64 r.2.1)), .c (.sc (.string r.2.2.1)), .row 16 (.int .u32) r.2.2.2.1, .c (.sc (.int .u32 r.2.2.2.2.1)), .c (.sc (.int .u32 r.2.2.2.2.2.1)), .row 4 (.int .u64) r.2.2.2.2.2.2.1, .row 8 (.int .i64) r.2.2.2.2.2.2.2.1, .c (.sc (.int .u32 r.2.2.2.2.2.2.2.2.1)), .c (.sc (.int .u32 r.2.2.2.2.2.2.2.2.2.1)), .row 32 (.int .u32) r.2.2.2.2.2.2.2.2.2.2.1, .c (.sc (.int .i64 r.2.2.2.2.2.2.2.2.2.2.2.1)), .c (.sc (.bool r.2.2.2.2.2.2.2.2.2.2.2.2.1)), .c (.sc (.int .u32 r.2.2.2.2.2.2.2.2.2.2.2.2.2.1)), .c (.sc (.int .i64 r.2.2.2.2.2.2.2.2.2.2.2.2.2.2.1)), .c (.sc (.int .i64 r.2.2.2.2.2.2.2.2.2.2.2.2.2.2.2.1)), .c (.sc (.bool r.2.2.2.2.2.2.2.2.2.2.2.2.2.2.2.2.1)), .c (.sc (.bool r.2.2.2.2.2.2.2.2.2.2.2.2.2.2.2.2.2.1)), .c (.sc (.bool r.2.2.2.2.2.2.2.2.2.2.2.2.2.2.2.2.2.2.1)), .c (.sc (.int .i64 r.2.2.2.2.2.2.2.2.2.2.2.2.2.2.2.2.2.2.2.1)), .c (.sc (.int .i64 r.2.2.2.2.2.2.2.2.2.2.2.2.2.2.2.2.2.2.2.2))])
theorem halterref33_Answer.fun_ {a0 : Int} {a1 : Int} {a2 : ByteArray} {a3 : (List Int)} {a4 : Int} {a5 : Int} {a6 : (List Int)} {a7 : (List Int)} {a8 : Int} {a9 : Int} {a10 : (List Int)} {a11 : Int} {a12 : Bool} {a13 : Int} {a14 : Int} {a15 : Int} {a16 : Bool} {a17 : Bool} {a18 : Bool} {a19 : Int} {a20 : Int} {a21 : Int} {r : TY0} (h : halterref33_Answer.f a0 a1 a2 a3 a4 a5 a6 a7 a8 a9 a10 a11 a12 a13 a14 a15 a16 a17 a18 a19 a20 a21 = some r) : Fun cfg 16 [.agg [.c (.sc (.int .i64 a0)), .c (.sc (.int .i64 a1)), .c (.sc (.string a2)), .row 16 (.int .u32) a3, .c (.sc (.int .u32 a4)), .c (.sc (.int .u32 a5)), .row 4 (.int .u64) a6, .row 8 (.int .i64) a7, .c (.sc (.int .u32 a8)), .c (.sc (.int .u32 a9)), .row 32 (.int .u32) a10, .c (.sc (.int .i64 a11)), .c (.sc (.bool a12)), .c (.sc (.int .u32 a13)), .c (.sc (.int .i64 a14)), .c (.sc (.int .i64 a15)), .c (.sc (.bool a16)), .c (.sc (.bool a17)), .c (.sc (.bool a18)), .c (.sc (.int .i64 a19)), .c (.sc (.int .i64 a20))], .one (.sc (.int .u32 a21))] [] (halterref33_Answer.R r) [] := by
  unfold halterref33_Answer.f at h
  refine fun_of_run cfg_ok (f := 16) (fn := Tryz.f16) Tryz.func16 rfl (by kernel_rfl) (rs := [.cell 4 35]) rfl (nt := 11) rfl (l := fin) (k := (aE 5 (.adj [.drop 0] .nil))) (to_goal (q := (U ∧ (U ∧ (0 ≤ (0 : Int) ∧ (0 : Int) < ((16 : Nat) : Int)) ∧ (0 < 16) ∧ (U ∧ (U) ∧ (U ∧ (U) ∧ (U) ∧ (U ∧ (((U) ∧ U) ∧ ((U) ∧ U) ∧ (.v (.agg [.c (.sc (.int .i64 a0)), .c (.sc (.int .i64 a1)), .c (.sc (.string a2)), .row 16 (.int .u32) (List.set a3 0 a21), .c (.sc (.int .u32 a4)), .c (.sc (.int .u32 a5)), .row 4 (.int .u64) a6, .row 8 (.int .i64) a7, .c (.sc (.int .u32 a8)), .c (.sc (.int .u32 a9)), .row 32 (.int .u32) a10, .c (.sc (.int .i64 a11)), .c (.sc (.bool a12)), .c (.sc (.int .u32 a13)), .c (.sc (.int .i64 a14)), .c (.sc (.int .i64 a15)), .c (.sc (.bool a16)), .c (.sc (.bool a17)), .c (.sc (.bool a18)), .c (.sc (.int .i64 (0 : Int))), .c (.sc (.int .i64 a20))]) : Tm) = halterref33_Answer.R r ∧ ([] : List Box) = []))))))) (by kernel_rfl) ?_)
  refine ⟨T, T, ?_⟩
  refine ⟨(by decide), ?_⟩
  refine ⟨(by decide), ?_⟩
  refine ⟨T, T, T, T, T, T, ?_⟩
  obtain rfl := oi h
  exact ⟨⟨T, T⟩, ⟨T, T⟩, rfl, rfl⟩
/-! halter/halterref33.Letter -/
def halterref33_Letter.f (a0 : Int) (a1 : Int) (a2 : ByteArray) (a3 : (List Int)) (a4 : Int) (a5 : Int) (a6 : (List Int)) (a7 : (List Int)) (a8 : Int) (a9 : Int) (a10 : (List Int)) (a11 : Int) (a12 : Bool) (a13 : Int) (a14 : Int) (a15 : Int) (a16 : Bool) (a17 : Bool) (a18 : Bool) (a19 : Int) (a20 : Int) (a21 : Bool) : Option Int :=
  if ¬ a19 = (0 : Int) then
    if a17 = true then
      if a12 = true then
        if a21 = true then
          some (90 : Int)
        else
          some (116 : Int)
      else
        if a21 = true then
          some (90 : Int)
        else
          some (84 : Int)
    else
      if a12 = true then
        if a21 = true then
          some (90 : Int)
        else
          some (116 : Int)
      else
        if a21 = true then
          some (90 : Int)
        else
          some (83 : Int)
  else
    if a17 = true then
      if a12 = true then
        if a21 = true then
          some (90 : Int)
        else
          some (116 : Int)
      else
        if a21 = true then
          some (90 : Int)
        else
          some (84 : Int)
    else
      if a12 = true then
        if a21 = true then
          some (90 : Int)
        else
          some (116 : Int)
      else
        if a21 = true then
          some (90 : Int)
        else
          some (82 : Int)
def halterref33_Letter.R (r : Int) : Tm := vi .u8 r
theorem halterref33_Letter.fun_ {a0 : Int} {a1 : Int} {a2 : ByteArray} {a3 : (List Int)} {a4 : Int} {a5 : Int} {a6 : (List Int)} {a7 : (List Int)} {a8 : Int} {a9 : Int} {a10 : (List Int)} {a11 : Int} {a12 : Bool} {a13 : Int} {a14 : Int} {a15 : Int} {a16 : Bool} {a17 : Bool} {a18 : Bool} {a19 : Int} {a20 : Int} {a21 : Bool} {r : Int} (h : halterref33_Letter.f a0 a1 a2 a3 a4 a5 a6 a7 a8 a9 a10 a11 a12 a13 a14 a15 a16 a17 a18 a19 a20 a21 = some r) : Fun cfg 18 [.agg [.c (.sc (.int .i64 a0)), .c (.sc (.int .i64 a1)), .c (.sc (.string a2)), .row 16 (.int .u32) a3, .c (.sc (.int .u32 a4)), .c (.sc (.int .u32 a5)), .row 4 (.int .u64) a6, .row 8 (.int .i64) a7, .c (.sc (.int .u32 a8)), .c (.sc (.int .u32 a9)), .row 32 (.int .u32) a10, .c (.sc (.int .i64 a11)), .c (.sc (.bool a12)), .c (.sc (.int .u32 a13)), .c (.sc (.int .i64 a14)), .c (.sc (.int .i64 a15)), .c (.sc (.bool a16)), .c (.sc (.bool a17)), .c (.sc (.bool a18)), .c (.sc (.int .i64 a19)), .c (.sc (.int .i64 a20))], .one (.sc (.bool a21))] [] (halterref33_Letter.R r) [] := by
  unfold halterref33_Letter.f at h
  refine fun_of_run cfg_ok (f := 18) (fn := Tryz.f18) Tryz.func18 rfl (by kernel_rfl) (rs := [.tmp 4]) rfl (nt := 16) rfl (l := fin) (k := (.br (.br (.br (.br (aE 3 (.adj [.drop 0] .nil)) (aE 3 (.adj [.drop 0] .nil))) (.br (aE 3 (.adj [.drop 0] .nil)) (aE 3 (.adj [.drop 0] .nil)))) (.br (.br (aE 3 (.adj [.drop 0] .nil)) (aE 3 (.adj [.drop 0] .nil))) (.br (aE 3 (.adj [.drop 0] .nil)) (aE 3 (.adj [.drop 0] .nil))))) (.br (.br (.br (aE 3 (.adj [.drop 0] .nil)) (aE 3 (.adj [.drop 0] .nil))) (.br (aE 3 (.adj [.drop 0] .nil)) (aE 3 (.adj [.drop 0] .nil)))) (.br (.br (aE 3 (.adj [.drop 0] .nil)) (aE 3 (.adj [.drop 0] .nil))) (.br (aE 3 (.adj [.drop 0] .nil)) (aE 3 (.adj [.drop 0] .nil))))))) (to_goal (q := (U) ∧ (U) ∧ (((a19 != (0 : Int)) = true → (U) ∧ ((a17 = true → (U) ∧ ((a12 = true → ((a21 = true → (U ∧ (U ∧ (U ∧ ((U) ∧ ((U) ∧ U) ∧ (vi .u8 (90 : Int) : Tm) = halterref33_Letter.R r ∧ ([] : List Box) = []))))) ∧ (a21 = false → (U ∧ (U ∧ (U ∧ ((U) ∧ ((U) ∧ U) ∧ (vi .u8 (116 : Int) : Tm) = halterref33_Letter.R r ∧ ([] : List Box) = []))))))) ∧ (a12 = false → ((a21 = true → (U ∧ (U ∧ (U ∧ ((U) ∧ ((U) ∧ U) ∧ (vi .u8 (90 : Int) : Tm) = halterref33_Letter.R r ∧ ([] : List Box) = []))))) ∧ (a21 = false → (U ∧ (U ∧ (U ∧ ((U) ∧ ((U) ∧ U) ∧ (vi .u8 (84 : Int) : Tm) = halterref33_Letter.R r ∧ ([] : List Box) = []))))))))) ∧ (a17 = false → (U) ∧ ((a12 = true → ((a21 = true → (U ∧ (U ∧ (U ∧ ((U) ∧ ((U) ∧ U) ∧ (vi .u8 (90 : Int) : Tm) = halterref33_Letter.R r ∧ ([] : List Box) = []))))) ∧ (a21 = false → (U ∧ (U ∧ (U ∧ ((U) ∧ ((U) ∧ U) ∧ (vi .u8 (116 : Int) : Tm) = halterref33_Letter.R r ∧ ([] : List Box) = []))))))) ∧ (a12 = false → ((a21 = true → (U ∧ (U ∧ (U ∧ ((U) ∧ ((U) ∧ U) ∧ (vi .u8 (90 : Int) : Tm) = halterref33_Letter.R r ∧ ([] : List Box) = []))))) ∧ (a21 = false → (U ∧ (U ∧ (U ∧ ((U) ∧ ((U) ∧ U) ∧ (vi .u8 (83 : Int) : Tm) = halterref33_Letter.R r ∧ ([] : List Box) = []))))))))))) ∧ ((a19 != (0 : Int)) = false → (U) ∧ ((a17 = true → (U) ∧ ((a12 = true → ((a21 = true → (U ∧ (U ∧ (U ∧ ((U) ∧ ((U) ∧ U) ∧ (vi .u8 (90 : Int) : Tm) = halterref33_Letter.R r ∧ ([] : List Box) = []))))) ∧ (a21 = false → (U ∧ (U ∧ (U ∧ ((U) ∧ ((U) ∧ U) ∧ (vi .u8 (116 : Int) : Tm) = halterref33_Letter.R r ∧ ([] : List Box) = []))))))) ∧ (a12 = false → ((a21 = true → (U ∧ (U ∧ (U ∧ ((U) ∧ ((U) ∧ U) ∧ (vi .u8 (90 : Int) : Tm) = halterref33_Letter.R r ∧ ([] : List Box) = []))))) ∧ (a21 = false → (U ∧ (U ∧ (U ∧ ((U) ∧ ((U) ∧ U) ∧ (vi .u8 (84 : Int) : Tm) = halterref33_Letter.R r ∧ ([] : List Box) = []))))))))) ∧ (a17 = false → (U) ∧ ((a12 = true → ((a21 = true → (U ∧ (U ∧ (U ∧ ((U) ∧ ((U) ∧ U) ∧ (vi .u8 (90 : Int) : Tm) = halterref33_Letter.R r ∧ ([] : List Box) = []))))) ∧ (a21 = false → (U ∧ (U ∧ (U ∧ ((U) ∧ ((U) ∧ U) ∧ (vi .u8 (116 : Int) : Tm) = halterref33_Letter.R r ∧ ([] : List Box) = []))))))) ∧ (a12 = false → ((a21 = true → (U ∧ (U ∧ (U ∧ ((U) ∧ ((U) ∧ U) ∧ (vi .u8 (90 : Int) : Tm) = halterref33_Letter.R r ∧ ([] : List Box) = []))))) ∧ (a21 = false → (U ∧ (U ∧ (U ∧ ((U) ∧ ((U) ∧ U) ∧ (vi .u8 (82 : Int) : Tm) = halterref33_Letter.R r ∧ ([] : List Box) = []))))))))))))) (by kernel_rfl) ?_)
  refine ⟨T, T, ?_⟩
  refine ⟨fun b1 => ?_, fun b1 => ?_⟩
  · rw [if_pos (bne_t b1)] at h
    refine tI ?_
    refine ⟨fun b2 => ?_, fun b2 => ?_⟩
    · rw [if_pos b2] at h
      refine tI ?_
      refine ⟨fun b3 => ?_, fun b3 => ?_⟩
      · rw [if_pos b3] at h
        refine ⟨fun b4 => ?_, fun b4 => ?_⟩
        · rw [if_pos b4] at h
          refine ⟨T, T, T, ?_⟩
          obtain rfl := oi h
          exact ⟨T, ⟨T, T⟩, rfl, rfl⟩
        · rw [if_neg (ff b4)] at h
          refine ⟨T, T, T, ?_⟩
          obtain rfl := oi h
          exact ⟨T, ⟨T, T⟩, rfl, rfl⟩
      · rw [if_neg (ff b3)] at h
        refine ⟨fun b5 => ?_, fun b5 => ?_⟩
        · rw [if_pos b5] at h
          refine ⟨T, T, T, ?_⟩
          obtain rfl := oi h
          exact ⟨T, ⟨T, T⟩, rfl, rfl⟩
        · rw [if_neg (ff b5)] at h
          refine ⟨T, T, T, ?_⟩
          obtain rfl := oi h
          exact ⟨T, ⟨T, T⟩, rfl, rfl⟩
    · rw [if_neg (ff b2)] at h
      refine tI ?_
      refine ⟨fun b6 => ?_, fun b6 => ?_⟩
      · rw [if_pos b6] at h
        refine ⟨fun b7 => ?_, fun b7 => ?_⟩
        · rw [if_pos b7] at h
          refine ⟨T, T, T, ?_⟩
          obtain rfl := oi h
          exact ⟨T, ⟨T, T⟩, rfl, rfl⟩
        · rw [if_neg (ff b7)] at h
          refine ⟨T, T, T, ?_⟩
          obtain rfl := oi h
          exact ⟨T, ⟨T, T⟩, rfl, rfl⟩
      · rw [if_neg (ff b6)] at h
        refine ⟨fun b8 => ?_, fun b8 => ?_⟩
        · rw [if_pos b8] at h
          refine ⟨T, T, T, ?_⟩
          obtain rfl := oi h
          exact ⟨T, ⟨T, T⟩, rfl, rfl⟩
        · rw [if_neg (ff b8)] at h
          refine ⟨T, T, T, ?_⟩
          obtain rfl := oi h
          exact ⟨T, ⟨T, T⟩, rfl, rfl⟩
  · rw [if_neg (not_not_intro (bne_f b1))] at h
    refine tI ?_
    refine ⟨fun b9 => ?_, fun b9 => ?_⟩
    · rw [if_pos b9] at h
      refine tI ?_
      refine ⟨fun b10 => ?_, fun b10 => ?_⟩
      · rw [if_pos b10] at h
        refine ⟨fun b11 => ?_, fun b11 => ?_⟩
        · rw [if_pos b11] at h
          refine ⟨T, T, T, ?_⟩
          obtain rfl := oi h
          exact ⟨T, ⟨T, T⟩, rfl, rfl⟩
        · rw [if_neg (ff b11)] at h
          refine ⟨T, T, T, ?_⟩
          obtain rfl := oi h
          exact ⟨T, ⟨T, T⟩, rfl, rfl⟩
      · rw [if_neg (ff b10)] at h
        refine ⟨fun b12 => ?_, fun b12 => ?_⟩
        · rw [if_pos b12] at h
          refine ⟨T, T, T, ?_⟩
          obtain rfl := oi h
          exact ⟨T, ⟨T, T⟩, rfl, rfl⟩
        · rw [if_neg (ff b12)] at h
          refine ⟨T, T, T, ?_⟩
          obtain rfl := oi h
          exact ⟨T, ⟨T, T⟩, rfl, rfl⟩
    · rw [if_neg (ff b9)] at h
      refine tI ?_
      refine ⟨fun b13 => ?_, fun b13 => ?_⟩
      · rw [if_pos b13] at h
        refine ⟨fun b14 => ?_, fun b14 => ?_⟩
        · rw [if_pos b14] at h
          refine ⟨T, T, T, ?_⟩
          obtain rfl := oi h
          exact ⟨T, ⟨T, T⟩, rfl, rfl⟩
        · rw [if_neg (ff b14)] at h
          refine ⟨T, T, T, ?_⟩
          obtain rfl := oi h
          exact ⟨T, ⟨T, T⟩, rfl, rfl⟩
      · rw [if_neg (ff b13)] at h
        refine ⟨fun b15 => ?_, fun b15 => ?_⟩
        · rw [if_pos b15] at h
          refine ⟨T, T, T, ?_⟩
          obtain rfl := oi h
          exact ⟨T, ⟨T, T⟩, rfl, rfl⟩
        · rw [if_neg (ff b15)] at h
          refine ⟨T, T, T, ?_⟩
          obtain rfl := oi h
          exact ⟨T, ⟨T, T⟩, rfl, rfl⟩
/-! halter/halterlaw33.ProcSteps -/
def kc0 (t10 : TY1) (t24 : TY0) : Bool := ((t10.1 == t24.1) && ((t10.2.1 == t24.2.1) && ((t10.2.2.1.toList == t24.2.2.1.toList) && (((intsEq (p3 t10) (p3 t24)) && (((p4 t10) == (p4 t24)) && (((p5 t10) == (p5 t24)) && ((intsEq (p6 t10) (p6 t24)) && true)))) && (((intsEq (p7 t10) (p7 t24)) && true) && ((((p8 t10) == (p8 t24)) && (((p9 t10) == (p9 t24)) && ((intsEq (p10 t10) (p10 t24)) && true))) && ((((p11 t10) == (p11 t24)) && (((p12 t10) == (p12 t24)) && (((p13 t10) == (p13 t24)) && (((p14 t10) == (p14 t24)) && (((p15 t10) == (p15 t24)) && (((p16 t10) == (p16 t24)) && true)))))) && (((p17 t10) == (p17 t24)) && (((p18 t10) == (p18 t24)) && (((p19 t10) == (p19 t24)) && (((p20 t10) == (z20 t24)) && true)))))))))))
def kc1 (t28 : TY0) (t30 : TY0) : Bool := ((t28.1 == t30.1) && ((t28.2.1 == t30.2.1) && ((t28.2.2.1.toList == t30.2.2.1.toList) && (((intsEq (p3 t28) (p3 t30)) && (((p4 t28) == (p4 t30)) && (((p5 t28) == (p5 t30)) && ((intsEq (p6 t28) (p6 t30)) && true)))) && (((intsEq (p7 t28) (p7 t30)) && true) && ((((p8 t28) == (p8 t30)) && (((p9 t28) == (p9 t30)) && ((intsEq (p10 t28) (p10 t30)) && true))) && ((((p11 t28) == (p11 t30)) && (((p12 t28) == (p12 t30)) && (((p13 t28) == (p13 t30)) && (((p14 t28) == (p14 t30)) && (((p15 t28) == (p15 t30)) && (((p16 t28) == (p16 t30)) && true)))))) && (((p17 t28) == (p17 t30)) && (((p18 t28) == (p18 t30)) && (((p19 t28) == (p19 t30)) && (((z20 t28) == (z20 t30)) && true)))))))))))
def kc2 (t4 : TY1) (t12 : TY0) : Bool := ((t4.1 == t12.1) && ((t4.2.1 == t12.2.1) && ((t4.2.2.1.toList == t12.2.2.1.toList) && (((intsEq (p3 t4) (p3 t12)) && (((p4 t4) == (p4 t12)) && (((p5 t4) == (p5 t12)) && ((intsEq (p6 t4) (p6 t12)) && true)))) && (((intsEq (p7 t4) (p7 t12)) && true) && ((((p8 t4) == (p8 t12)) && (((p9 t4) == (p9 t12)) && ((intsEq (p10 t4) (p10 t12)) && true))) && ((((p11 t4) == (p11 t12)) && (((p12 t4) == (p12 t12)) && (((p13 t4) == (p13 t12)) && (((p14 t4) == (p14 t12)) && (((p15 t4) == (p15 t12)) && (((p16 t4) == (p16 t12)) && true)))))) && (((p17 t4) == (p17 t12)) && (((p18 t4) == (p18 t12)) && (((p19 t4) == (p19 t12)) && (((p20 t4) == (z20 t12)) && true)))))))))))
def kc3 (t6 : TY1) (t16 : TY0) : Bool := ((t6.1 == t16.1) && ((t6.2.1 == t16.2.1) && ((t6.2.2.1.toList == t16.2.2.1.toList) && (((intsEq (p3 t6) (p3 t16)) && (((p4 t6) == (p4 t16)) && (((p5 t6) == (p5 t16)) && ((intsEq (p6 t6) (p6 t16)) && true)))) && (((intsEq (p7 t6) (p7 t16)) && true) && ((((p8 t6) == (p8 t16)) && (((p9 t6) == (p9 t16)) && ((intsEq (p10 t6) (p10 t16)) && true))) && ((((p11 t6) == (p11 t16)) && (((p12 t6) == (p12 t16)) && (((p13 t6) == (p13 t16)) && (((p14 t6) == (p14 t16)) && (((p15 t6) == (p15 t16)) && (((p16 t6) == (p16 t16)) && true)))))) && (((p17 t6) == (p17 t16)) && (((p18 t6) == (p18 t16)) && (((p19 t6) == (p19 t16)) && (((p20 t6) == (z20 t16)) && true)))))))))))
def kc4 (t8 : TY1) (t20 : TY0) : Bool := ((t8.1 == t20.1) && ((t8.2.1 == t20.2.1) && ((t8.2.2.1.toList == t20.2.2.1.toList) && (((intsEq (p3 t8) (p3 t20)) && (((p4 t8) == (p4 t20)) && (((p5 t8) == (p5 t20)) && ((intsEq (p6 t8) (p6 t20)) && true)))) && (((intsEq (p7 t8) (p7 t20)) && true) && ((((p8 t8) == (p8 t20)) && (((p9 t8) == (p9 t20)) && ((intsEq (p10 t8) (p10 t20)) && true))) && ((((p11 t8) == (p11 t20)) && (((p12 t8) == (p12 t20)) && (((p13 t8) == (p13 t20)) && (((p14 t8) == (p14 t20)) && (((p15 t8) == (p15 t20)) && (((p16 t8) == (p16 t20)) && true)))))) && (((p17 t8) == (p17 t20)) && (((p18 t8) == (p18 t20)) && (((p19 t8) == (p19 t20)) && (((p20 t8) == (z20 t20)) && true)))))))))))
def kc5 (t11 : TY2) : AV := .agg [.c (.sc (.int .i64 t11.1)), .c (.sc (.int .i64 t11.2.1)), .c (.sc (.string (p2 t11))), .row 16 (.int .u32) (p3 t11), .c (.sc (.int .u32 (p4 t11))), .c (.sc (.int .u32 (p5 t11))), .row 4 (.int .u64) (p6 t11), .row 8 (.int .i64) (p7 t11), .c (.sc (.int .u32 (p8 t11))), .c (.sc (.int .u32 (p9 t11))), .row 32 (.int .u32) (p10 t11), .c (.sc (.int .i64 (p11 t11))), .c (.sc (.bool (p12 t11))), .c (.sc (.int .u32 (p13 t11))), .c (.sc (.int .i64 (p14 t11))), .c (.sc (.int .i64 (p15 t11))), .c (.sc (.bool (p16 t11))), .c (.sc (.bool (p17 t11))), .c (.sc (.bool (p18 t11))), .c (.sc (.int .i64 (p19 t11))), .c (.sc (.int .i64 (p20 t11)))]
def kc6 (t29 : TY0) : AV := .agg [.c (.sc (.int .i64 t29.1)), .c (.sc (.int .i64 t29.2.1)), .c (.sc (.string (p2 t29))), .row 16 (.int .u32) (p3 t29), .c (.sc (.int .u32 (p4 t29))), .c (.sc (.int .u32 (p5 t29))), .row 4 (.int .u64) (p6 t29), .row 8 (.int .i64) (p7 t29), .c (.sc (.int .u32 (p8 t29))), .c (.sc (.int .u32 (p9 t29))), .row 32 (.int .u32) (p10 t29), .c (.sc (.int .i64 (p11 t29))), .c (.sc (.bool (p12 t29))), .c (.sc (.int .u32 (p13 t29))), .c (.sc (.int .i64 (p14 t29))), .c (.sc (.int .i64 (p15 t29))), .c (.sc (.bool (p16 t29))), .c (.sc (.bool (p17 t29))), .c (.sc (.bool (p18 t29))), .c (.sc (.int .i64 (p19 t29))), .c (.sc (.int .i64 (z20 t29)))]
def kc7 (t5 : TY2) : AV := .agg [.c (.sc (.int .i64 t5.1)), .c (.sc (.int .i64 t5.2.1)), .c (.sc (.string (p2 t5))), .row 16 (.int .u32) (p3 t5), .c (.sc (.int .u32 (p4 t5))), .c (.sc (.int .u32 (p5 t5))), .row 4 (.int .u64) (p6 t5), .row 8 (.int .i64) (p7 t5), .c (.sc (.int .u32 (p8 t5))), .c (.sc (.int .u32 (p9 t5))), .row 32 (.int .u32) (p10 t5), .c (.sc (.int .i64 (p11 t5))), .c (.sc (.bool (p12 t5))), .c (.sc (.int .u32 (p13 t5))), .c (.sc (.int .i64 (p14 t5))), .c (.sc (.int .i64 (p15 t5))), .c (.sc (.bool (p16 t5))), .c (.sc (.bool (p17 t5))), .c (.sc (.bool (p18 t5))), .c (.sc (.int .i64 (p19 t5))), .c (.sc (.int .i64 (p20 t5)))]
def kc8 (t7 : TY2) : AV := .agg [.c (.sc (.int .i64 t7.1)), .c (.sc (.int .i64 t7.2.1)), .c (.sc (.string (p2 t7))), .row 16 (.int .u32) (p3 t7), .c (.sc (.int .u32 (p4 t7))), .c (.sc (.int .u32 (p5 t7))), .row 4 (.int .u64) (p6 t7), .row 8 (.int .i64) (p7 t7), .c (.sc (.int .u32 (p8 t7))), .c (.sc (.int .u32 (p9 t7))), .row 32 (.int .u32) (p10 t7), .c (.sc (.int .i64 (p11 t7))), .c (.sc (.bool (p12 t7))), .c (.sc (.int .u32 (p13 t7))), .c (.sc (.int .i64 (p14 t7))), .c (.sc (.int .i64 (p15 t7))), .c (.sc (.bool (p16 t7))), .c (.sc (.bool (p17 t7))), .c (.sc (.bool (p18 t7))), .c (.sc (.int .i64 (p19 t7))), .c (.sc (.int .i64 (p20 t7)))]
def kc9 (t9 : TY2) : AV := .agg [.c (.sc (.int .i64 t9.1)), .c (.sc (.int .i64 t9.2.1)), .c (.sc (.string (p2 t9))), .row 16 (.int .u32) (p3 t9), .c (.sc (.int .u32 (p4 t9))), .c (.sc (.int .u32 (p5 t9))), .row 4 (.int .u64) (p6 t9), .row 8 (.int .i64) (p7 t9), .c (.sc (.int .u32 (p8 t9))), .c (.sc (.int .u32 (p9 t9))), .row 32 (.int .u32) (p10 t9), .c (.sc (.int .i64 (p11 t9))), .c (.sc (.bool (p12 t9))), .c (.sc (.int .u32 (p13 t9))), .c (.sc (.int .i64 (p14 t9))), .c (.sc (.int .i64 (p15 t9))), .c (.sc (.bool (p16 t9))), .c (.sc (.bool (p17 t9))), .c (.sc (.bool (p18 t9))), .c (.sc (.int .i64 (p19 t9))), .c (.sc (.int .i64 (p20 t9)))]
def kc10 (t3 : TY0) : AV := .agg [.c (.sc (.int .i64 t3.1)), .c (.sc (.int .i64 t3.2.1)), .c (.sc (.string (p2 t3))), .row 16 (.int .u32) (p3 t3), .c (.sc (.int .u32 (p4 t3))), .c (.sc (.int .u32 (p5 t3))), .row 4 (.int .u64) (p6 t3), .row 8 (.int .i64) (p7 t3), .c (.sc (.int .u32 (p8 t3))), .c (.sc (.int .u32 (p9 t3))), .row 32 (.int .u32) (p10 t3), .c (.sc (.int .i64 (p11 t3))), .c (.sc (.bool (p12 t3))), .c (.sc (.int .u32 (p13 t3))), .c (.sc (.int .i64 (p14 t3))), .c (.sc (.int .i64 (p15 t3))), .c (.sc (.bool (p16 t3))), .c (.sc (.bool (p17 t3))), .c (.sc (.bool (p18 t3))), .c (.sc (.int .i64 (p19 t3))), .c (.sc (.int .i64 (z20 t3)))]
def kc11 (a0 : Int) (a1 : Int) (a2 : ByteArray) (a3 : (List Int)) (a4 : Int) (a5 : Int) (a6 : (List Int)) (a7 : (List Int)) (a8 : Int) (a9 : Int) (a10 : (List Int)) (a11 : Int) (a12 : Bool) (a13 : Int) (a14 : Int) (a15 : Int) (a16 : Bool) (a17 : Bool) (a18 : Bool) (a19 : Int) (a20 : Int) : AV := .agg [.c (.sc (.int .i64 a0)), .c (.sc (.int .i64 a1)), .c (.sc (.string a2)), .row 16 (.int .u32) a3, .c (.sc (.int .u32 a4)), .c (.sc (.int .u32 a5)), .row 4 (.int .u64) a6, .row 8 (.int .i64) a7, .c (.sc (.int .u32 a8)), .c (.sc (.int .u32 a9)), .row 32 (.int .u32) a10, .c (.sc (.int .i64 a11)), .c (.sc (.bool a12)), .c (.sc (.int .u32 a13)), .c (.sc (.int .i64 a14)), .c (.sc (.int .i64 a15)), .c (.sc (.bool a16)), .c (.sc (.bool a17)), .c (.sc (.bool a18)), .c (.sc (.int .i64 a19)), .c (.sc (.int .i64 a20))]
def halterlaw33_ProcSteps.f (a0 : Int) (a1 : Int) (a2 : ByteArray) (a3 : (List Int)) (a4 : Int) (a5 : Int) (a6 : (List Int)) (a7 : (List Int)) (a8 : Int) (a9 : Int) (a10 : (List Int)) (a11 : Int) (a12 : Bool) (a13 : Int) (a14 : Int) (a15 : Int) (a16 : Bool) (a17 : Bool) (a18 : Bool) (a19 : Int) (a20 : Int) (a21 : (List Int)) (a22 : Int) : Option Bool :=
  if ((ByteArray.size a2 : Nat) : Int) > (200 : Int) then
    halterlaw33_sure.f.bind fun t2 =>
    some t2
  else
    (halterlaw33_giveProc.f a0 a1 a2 a3 a4 a5 a6 a7 a8 a9 a10 a11 a12 a13 a14 a15 a16 a17 a18 a19 a20).bind fun t3 =>
    (proc_Child.f t3.1 t3.2.1 t3.2.2.1 t3.2.2.2.1 t3.2.2.2.2.1 t3.2.2.2.2.2.1 t3.2.2.2.2.2.2.1 t3.2.2.2.2.2.2.2.1 t3.2.2.2.2.2.2.2.2.1 t3.2.2.2.2.2.2.2.2.2.1 t3.2.2.2.2.2.2.2.2.2.2.1 t3.2.2.2.2.2.2.2.2.2.2.2.1 t3.2.2.2.2.2.2.2.2.2.2.2.2.1 t3.2.2.2.2.2.2.2.2.2.2.2.2.2.1 t3.2.2.2.2.2.2.2.2.2.2.2.2.2.2.1 t3.2.2.2.2.2.2.2.2.2.2.2.2.2.2.2.1 t3.2.2.2.2.2.2.2.2.2.2.2.2.2.2.2.2.1 t3.2.2.2.2.2.2.2.2.2.2.2.2.2.2.2.2.2.1 t3.2.2.2.2.2.2.2.2.2.2.2.2.2.2.2.2.2.2.1 t3.2.2.2.2.2.2.2.2.2.2.2.2.2.2.2.2.2.2.2.1 t3.2.2.2.2.2.2.2.2.2.2.2.2.2.2.2.2.2.2.2.2 (List.getD a21 0 (0 : Int))).bind fun t4 =>
    (halterref33_Child.f a0 a1 a2 a3 a4 a5 a6 a7 a8 a9 a10 a11 a12 a13 a14 a15 a16 a17 a18 a19 a20 (List.getD a21 0 (0 : Int))).bind fun t5 =>
    (proc_Exec.f t3.1 t3.2.1 t3.2.2.1 t3.2.2.2.1 t3.2.2.2.2.1 t3.2.2.2.2.2.1 t3.2.2.2.2.2.2.1 t3.2.2.2.2.2.2.2.1 t3.2.2.2.2.2.2.2.2.1 t3.2.2.2.2.2.2.2.2.2.1 t3.2.2.2.2.2.2.2.2.2.2.1 t3.2.2.2.2.2.2.2.2.2.2.2.1 t3.2.2.2.2.2.2.2.2.2.2.2.2.1 t3.2.2.2.2.2.2.2.2.2.2.2.2.2.1 t3.2.2.2.2.2.2.2.2.2.2.2.2.2.2.1 t3.2.2.2.2.2.2.2.2.2.2.2.2.2.2.2.1 t3.2.2.2.2.2.2.2.2.2.2.2.2.2.2.2.2.1 t3.2.2.2.2.2.2.2.2.2.2.2.2.2.2.2.2.2.1 t3.2.2.2.2.2.2.2.2.2.2.2.2.2.2.2.2.2.2.1 t3.2.2.2.2.2.2.2.2.2.2.2.2.2.2.2.2.2.2.2.1 t3.2.2.2.2.2.2.2.2.2.2.2.2.2.2.2.2.2.2.2.2 (⟨#[115, 104]⟩ : ByteArray) a22 (List.getD a21 1 (0 : Int))).bind fun t6 =>
    (halterref33_Exec.f a0 a1 a2 a3 a4 a5 a6 a7 a8 a9 a10 a11 a12 a13 a14 a15 a16 a17 a18 a19 a20 (⟨#[115, 104]⟩ : ByteArray) a22 (List.getD a21 1 (0 : Int))).bind fun t7 =>
    (proc_Post.f t3.1 t3.2.1 t3.2.2.1 t3.2.2.2.1 t3.2.2.2.2.1 t3.2.2.2.2.2.1 t3.2.2.2.2.2.2.1 t3.2.2.2.2.2.2.2.1 t3.2.2.2.2.2.2.2.2.1 t3.2.2.2.2.2.2.2.2.2.1 t3.2.2.2.2.2.2.2.2.2.2.1 t3.2.2.2.2.2.2.2.2.2.2.2.1 t3.2.2.2.2.2.2.2.2.2.2.2.2.1 t3.2.2.2.2.2.2.2.2.2.2.2.2.2.1 t3.2.2.2.2.2.2.2.2.2.2.2.2.2.2.1 t3.2.2.2.2.2.2.2.2.2.2.2.2.2.2.2.1 t3.2.2.2.2.2.2.2.2.2.2.2.2.2.2.2.2.1 t3.2.2.2.2.2.2.2.2.2.2.2.2.2.2.2.2.2.1 t3.2.2.2.2.2.2.2.2.2.2.2.2.2.2.2.2.2.2.1 t3.2.2.2.2.2.2.2.2.2.2.2.2.2.2.2.2.2.2.2.1 t3.2.2.2.2.2.2.2.2.2.2.2.2.2.2.2.2.2.2.2.2 (List.getD a21 2 (0 : Int))).bind fun t8 =>
    (halterref33_Post.f a0 a1 a2 a3 a4 a5 a6 a7 a8 a9 a10 a11 a12 a13 a14 a15 a16 a17 a18 a19 a20 (List.getD a21 2 (0 : Int))).bind fun t9 =>
    (proc_First.f (List.getD a21 0 (0 : Int)) a2 a22).bind fun t10 =>
    (halterref33_First.f (List.getD a21 0 (0 : Int)) a2 a22).bind fun t11 =>
    (halterlaw33_giveProc.f t5.1 t5.2.1 t5.2.2.1 t5.2.2.2.1 t5.2.2.2.2.1 t5.2.2.2.2.2.1 t5.2.2.2.2.2.2.1 t5.2.2.2.2.2.2.2.1 t5.2.2.2.2.2.2.2.2.1 t5.2.2.2.2.2.2.2.2.2.1 t5.2.2.2.2.2.2.2.2.2.2.1 t5.2.2.2.2.2.2.2.2.2.2.2.1 t5.2.2.2.2.2.2.2.2.2.2.2.2.1 t5.2.2.2.2.2.2.2.2.2.2.2.2.2.1 t5.2.2.2.2.2.2.2.2.2.2.2.2.2.2.1 t5.2.2.2.2.2.2.2.2.2.2.2.2.2.2.2.1 t5.2.2.2.2.2.2.2.2.2.2.2.2.2.2.2.2.1 t5.2.2.2.2.2.2.2.2.2.2.2.2.2.2.2.2.2.1 t5.2.2.2.2.2.2.2.2.2.2.2.2.2.2.2.2.2.2.1 t5.2.2.2.2.2.2.2.2.2.2.2.2.2.2.2.2.2.2.2.1 t5.2.2.2.2.2.2.2.2.2.2.2.2.2.2.2.2.2.2.2.2.1).bind fun t12 =>
    if (t4.1 = t12.1 ∧ (t4.2.1 = t12.2.1 ∧ (t4.2.2.1 = t12.2.2.1 ∧ ((t4.2.2.2.1 = t12.2.2.2.1 ∧ (t4.2.2.2.2.1 = t12.2.2.2.2.1 ∧ (t4.2.2.2.2.2.1 = t12.2.2.2.2.2.1 ∧ t4.2.2.2.2.2.2.1 = t12.2.2.2.2.2.2.1))) ∧ (t4.2.2.2.2.2.2.2.1 = t12.2.2.2.2.2.2.2.1 ∧ ((t4.2.2.2.2.2.2.2.2.1 = t12.2.2.2.2.2.2.2.2.1 ∧ (t4.2.2.2.2.2.2.2.2.2.1 = t12.2.2.2.2.2.2.2.2.2.1 ∧ t4.2.2.2.2.2.2.2.2.2.2.1 = t12.2.2.2.2.2.2.2.2.2.2.1)) ∧ ((t4.2.2.2.2.2.2.2.2.2.2.2.1 = t12.2.2.2.2.2.2.2.2.2.2.2.1 ∧ (t4.2.2.2.2.2.2.2.2.2.2.2.2.1 = t12.2.2.2.2.2.2.2.2.2.2.2.2.1 ∧ (t4.2.2.2.2.2.2.2.2.2.2.2.2.2.1 = t12.2.2.2.2.2.2.2.2.2.2.2.2.2.1 ∧ (t4.2.2.2.2.2.2.2.2.2.2.2.2.2.2.1 = t12.2.2.2.2.2.2.2.2.2.2.2.2.2.2.1 ∧ (t4.2.2.2.2.2.2.2.2.2.2.2.2.2.2.2.1 = t12.2.2.2.2.2.2.2.2.2.2.2.2.2.2.2.1 ∧ t4.2.2.2.2.2.2.2.2.2.2.2.2.2.2.2.2.1 = t12.2.2.2.2.2.2.2.2.2.2.2.2.2.2.2.2.1))))) ∧ (t4.2.2.2.2.2.2.2.2.2.2.2.2.2.2.2.2.2.1 = t12.2.2.2.2.2.2.2.2.2.2.2.2.2.2.2.2.2.1 ∧ (t4.2.2.2.2.2.2.2.2.2.2.2.2.2.2.2.2.2.2.1 = t12.2.2.2.2.2.2.2.2.2.2.2.2.2.2.2.2.2.2.1 ∧ (t4.2.2.2.2.2.2.2.2.2.2.2.2.2.2.2.2.2.2.2.1 = t12.2.2.2.2.2.2.2.2.2.2.2.2.2.2.2.2.2.2.2.1 ∧ t4.2.2.2.2.2.2.2.2.2.2.2.2.2.2.2.2.2.2.2.2.1 = t12.2.2.2.2.2.2.2.2.2.2.2.2.2.2.2.2.2.2.2.2)))))))))) then
      (num.f t4.2.2.2.2.2.2.2.2.2.2.2.2.2.2.2.2.2.2.2.2.2).bind fun t14 =>
      if t14 = t5.2.2.2.2.2.2.2.2.2.2.2.2.2.2.2.2.2.2.2.2.2 then
        (halterlaw33_giveProc.f t7.1 t7.2.1 t7.2.2.1 t7.2.2.2.1 t7.2.2.2.2.1 t7.2.2.2.2.2.1 t7.2.2.2.2.2.2.1 t7.2.2.2.2.2.2.2.1 t7.2.2.2.2.2.2.2.2.1 t7.2.2.2.2.2.2.2.2.2.1 t7.2.2.2.2.2.2.2.2.2.2.1 t7.2.2.2.2.2.2.2.2.2.2.2.1 t7.2.2.2.2.2.2.2.2.2.2.2.2.1 t7.2.2.2.2.2.2.2.2.2.2.2.2.2.1 t7.2.2.2.2.2.2.2.2.2.2.2.2.2.2.1 t7.2.2.2.2.2.2.2.2.2.2.2.2.2.2.2.1 t7.2.2.2.2.2.2.2.2.2.2.2.2.2.2.2.2.1 t7.2.2.2.2.2.2.2.2.2.2.2.2.2.2.2.2.2.1 t7.2.2.2.2.2.2.2.2.2.2.2.2.2.2.2.2.2.2.1 t7.2.2.2.2.2.2.2.2.2.2.2.2.2.2.2.2.2.2.2.1 t7.2.2.2.2.2.2.2.2.2.2.2.2.2.2.2.2.2.2.2.2.1).bind fun t16 =>
        if (t6.1 = t16.1 ∧ (t6.2.1 = t16.2.1 ∧ (t6.2.2.1 = t16.2.2.1 ∧ ((t6.2.2.2.1 = t16.2.2.2.1 ∧ (t6.2.2.2.2.1 = t16.2.2.2.2.1 ∧ (t6.2.2.2.2.2.1 = t16.2.2.2.2.2.1 ∧ t6.2.2.2.2.2.2.1 = t16.2.2.2.2.2.2.1))) ∧ (t6.2.2.2.2.2.2.2.1 = t16.2.2.2.2.2.2.2.1 ∧ ((t6.2.2.2.2.2.2.2.2.1 = t16.2.2.2.2.2.2.2.2.1 ∧ (t6.2.2.2.2.2.2.2.2.2.1 = t16.2.2.2.2.2.2.2.2.2.1 ∧ t6.2.2.2.2.2.2.2.2.2.2.1 = t16.2.2.2.2.2.2.2.2.2.2.1)) ∧ ((t6.2.2.2.2.2.2.2.2.2.2.2.1 = t16.2.2.2.2.2.2.2.2.2.2.2.1 ∧ (t6.2.2.2.2.2.2.2.2.2.2.2.2.1 = t16.2.2.2.2.2.2.2.2.2.2.2.2.1 ∧ (t6.2.2.2.2.2.2.2.2.2.2.2.2.2.1 = t16.2.2.2.2.2.2.2.2.2.2.2.2.2.1 ∧ (t6.2.2.2.2.2.2.2.2.2.2.2.2.2.2.1 = t16.2.2.2.2.2.2.2.2.2.2.2.2.2.2.1 ∧ (t6.2.2.2.2.2.2.2.2.2.2.2.2.2.2.2.1 = t16.2.2.2.2.2.2.2.2.2.2.2.2.2.2.2.1 ∧ t6.2.2.2.2.2.2.2.2.2.2.2.2.2.2.2.2.1 = t16.2.2.2.2.2.2.2.2.2.2.2.2.2.2.2.2.1))))) ∧ (t6.2.2.2.2.2.2.2.2.2.2.2.2.2.2.2.2.2.1 = t16.2.2.2.2.2.2.2.2.2.2.2.2.2.2.2.2.2.1 ∧ (t6.2.2.2.2.2.2.2.2.2.2.2.2.2.2.2.2.2.2.1 = t16.2.2.2.2.2.2.2.2.2.2.2.2.2.2.2.2.2.2.1 ∧ (t6.2.2.2.2.2.2.2.2.2.2.2.2.2.2.2.2.2.2.2.1 = t16.2.2.2.2.2.2.2.2.2.2.2.2.2.2.2.2.2.2.2.1 ∧ t6.2.2.2.2.2.2.2.2.2.2.2.2.2.2.2.2.2.2.2.2.1 = t16.2.2.2.2.2.2.2.2.2.2.2.2.2.2.2.2.2.2.2.2)))))))))) then
          (num.f t6.2.2.2.2.2.2.2.2.2.2.2.2.2.2.2.2.2.2.2.2.2).bind fun t18 =>
          if t18 = t7.2.2.2.2.2.2.2.2.2.2.2.2.2.2.2.2.2.2.2.2.2 then
            (halterlaw33_giveProc.f t9.1 t9.2.1 t9.2.2.1 t9.2.2.2.1 t9.2.2.2.2.1 t9.2.2.2.2.2.1 t9.2.2.2.2.2.2.1 t9.2.2.2.2.2.2.2.1 t9.2.2.2.2.2.2.2.2.1 t9.2.2.2.2.2.2.2.2.2.1 t9.2.2.2.2.2.2.2.2.2.2.1 t9.2.2.2.2.2.2.2.2.2.2.2.1 t9.2.2.2.2.2.2.2.2.2.2.2.2.1 t9.2.2.2.2.2.2.2.2.2.2.2.2.2.1 t9.2.2.2.2.2.2.2.2.2.2.2.2.2.2.1 t9.2.2.2.2.2.2.2.2.2.2.2.2.2.2.2.1 t9.2.2.2.2.2.2.2.2.2.2.2.2.2.2.2.2.1 t9.2.2.2.2.2.2.2.2.2.2.2.2.2.2.2.2.2.1 t9.2.2.2.2.2.2.2.2.2.2.2.2.2.2.2.2.2.2.1 t9.2.2.2.2.2.2.2.2.2.2.2.2.2.2.2.2.2.2.2.1 t9.2.2.2.2.2.2.2.2.2.2.2.2.2.2.2.2.2.2.2.2.1).bind fun t20 =>
            if (t8.1 = t20.1 ∧ (t8.2.1 = t20.2.1 ∧ (t8.2.2.1 = t20.2.2.1 ∧ ((t8.2.2.2.1 = t20.2.2.2.1 ∧ (t8.2.2.2.2.1 = t20.2.2.2.2.1 ∧ (t8.2.2.2.2.2.1 = t20.2.2.2.2.2.1 ∧ t8.2.2.2.2.2.2.1 = t20.2.2.2.2.2.2.1))) ∧ (t8.2.2.2.2.2.2.2.1 = t20.2.2.2.2.2.2.2.1 ∧ ((t8.2.2.2.2.2.2.2.2.1 = t20.2.2.2.2.2.2.2.2.1 ∧ (t8.2.2.2.2.2.2.2.2.2.1 = t20.2.2.2.2.2.2.2.2.2.1 ∧ t8.2.2.2.2.2.2.2.2.2.2.1 = t20.2.2.2.2.2.2.2.2.2.2.1)) ∧ ((t8.2.2.2.2.2.2.2.2.2.2.2.1 = t20.2.2.2.2.2.2.2.2.2.2.2.1 ∧ (t8.2.2.2.2.2.2.2.2.2.2.2.2.1 = t20.2.2.2.2.2.2.2.2.2.2.2.2.1 ∧ (t8.2.2.2.2.2.2.2.2.2.2.2.2.2.1 = t20.2.2.2.2.2.2.2.2.2.2.2.2.2.1 ∧ (t8.2.2.2.2.2.2.2.2.2.2.2.2.2.2.1 = t20.2.2.2.2.2.2.2.2.2.2.2.2.2.2.1 ∧ (t8.2.2.2.2.2.2.2.2.2.2.2.2.2.2.2.1 = t20.2.2.2.2.2.2.2.2.2.2.2.2.2.2.2.1 ∧ t8.2.2.2.2.2.2.2.2.2.2.2.2.2.2.2.2.1 = t20.2.2.2.2.2.2.2.2.2.2.2.2.2.2.2.2.1))))) ∧ (t8.2.2.2.2.2.2.2.2.2.2.2.2.2.2.2.2.2.1 = t20.2.2.2.2.2.2.2.2.2.2.2.2.2.2.2.2.2.1 ∧ (t8.2.2.2.2.2.2.2.2.2.2.2.2.2.2.2.2.2.2.1 = t20.2.2.2.2.2.2.2.2.2.2.2.2.2.2.2.2.2.2.1 ∧ (t8.2.2.2.2.2.2.2.2.2.2.2.2.2.2.2.2.2.2.2.1 = t20.2.2.2.2.2.2.2.2.2.2.2.2.2.2.2.2.2.2.2.1 ∧ t8.2.2.2.2.2.2.2.2.2.2.2.2.2.2.2.2.2.2.2.2.1 = t20.2.2.2.2.2.2.2.2.2.2.2.2.2.2.2.2.2.2.2.2)))))))))) then
              (num.f t8.2.2.2.2.2.2.2.2.2.2.2.2.2.2.2.2.2.2.2.2.2).bind fun t22 =>
              if t22 = t9.2.2.2.2.2.2.2.2.2.2.2.2.2.2.2.2.2.2.2.2.2 then
                (halterlaw33_giveProc.f t11.1 t11.2.1 t11.2.2.1 t11.2.2.2.1 t11.2.2.2.2.1 t11.2.2.2.2.2.1 t11.2.2.2.2.2.2.1 t11.2.2.2.2.2.2.2.1 t11.2.2.2.2.2.2.2.2.1 t11.2.2.2.2.2.2.2.2.2.1 t11.2.2.2.2.2.2.2.2.2.2.1 t11.2.2.2.2.2.2.2.2.2.2.2.1 t11.2.2.2.2.2.2.2.2.2.2.2.2.1 t11.2.2.2.2.2.2.2.2.2.2.2.2.2.1 t11.2.2.2.2.2.2.2.2.2.2.2.2.2.2.1 t11.2.2.2.2.2.2.2.2.2.2.2.2.2.2.2.1 t11.2.2.2.2.2.2.2.2.2.2.2.2.2.2.2.2.1 t11.2.2.2.2.2.2.2.2.2.2.2.2.2.2.2.2.2.1 t11.2.2.2.2.2.2.2.2.2.2.2.2.2.2.2.2.2.2.1 t11.2.2.2.2.2.2.2.2.2.2.2.2.2.2.2.2.2.2.2.1 t11.2.2.2.2.2.2.2.2.2.2.2.2.2.2.2.2.2.2.2.2.1).bind fun t24 =>
                if (t10.1 = t24.1 ∧ (t10.2.1 = t24.2.1 ∧ (t10.2.2.1 = t24.2.2.1 ∧ ((t10.2.2.2.1 = t24.2.2.2.1 ∧ (t10.2.2.2.2.1 = t24.2.2.2.2.1 ∧ (t10.2.2.2.2.2.1 = t24.2.2.2.2.2.1 ∧ t10.2.2.2.2.2.2.1 = t24.2.2.2.2.2.2.1))) ∧ (t10.2.2.2.2.2.2.2.1 = t24.2.2.2.2.2.2.2.1 ∧ ((t10.2.2.2.2.2.2.2.2.1 = t24.2.2.2.2.2.2.2.2.1 ∧ (t10.2.2.2.2.2.2.2.2.2.1 = t24.2.2.2.2.2.2.2.2.2.1 ∧ t10.2.2.2.2.2.2.2.2.2.2.1 = t24.2.2.2.2.2.2.2.2.2.2.1)) ∧ ((t10.2.2.2.2.2.2.2.2.2.2.2.1 = t24.2.2.2.2.2.2.2.2.2.2.2.1 ∧ (t10.2.2.2.2.2.2.2.2.2.2.2.2.1 = t24.2.2.2.2.2.2.2.2.2.2.2.2.1 ∧ (t10.2.2.2.2.2.2.2.2.2.2.2.2.2.1 = t24.2.2.2.2.2.2.2.2.2.2.2.2.2.1 ∧ (t10.2.2.2.2.2.2.2.2.2.2.2.2.2.2.1 = t24.2.2.2.2.2.2.2.2.2.2.2.2.2.2.1 ∧ (t10.2.2.2.2.2.2.2.2.2.2.2.2.2.2.2.1 = t24.2.2.2.2.2.2.2.2.2.2.2.2.2.2.2.1 ∧ t10.2.2.2.2.2.2.2.2.2.2.2.2.2.2.2.2.1 = t24.2.2.2.2.2.2.2.2.2.2.2.2.2.2.2.2.1))))) ∧ (t10.2.2.2.2.2.2.2.2.2.2.2.2.2.2.2.2.2.1 = t24.2.2.2.2.2.2.2.2.2.2.2.2.2.2.2.2.2.1 ∧ (t10.2.2.2.2.2.2.2.2.2.2.2.2.2.2.2.2.2.2.1 = t24.2.2.2.2.2.2.2.2.2.2.2.2.2.2.2.2.2.2.1 ∧ (t10.2.2.2.2.2.2.2.2.2.2.2.2.2.2.2.2.2.2.2.1 = t24.2.2.2.2.2.2.2.2.2.2.2.2.2.2.2.2.2.2.2.1 ∧ t10.2.2.2.2.2.2.2.2.2.2.2.2.2.2.2.2.2.2.2.2.1 = t24.2.2.2.2.2.2.2.2.2.2.2.2.2.2.2.2.2.2.2.2)))))))))) then
                  (num.f t10.2.2.2.2.2.2.2.2.2.2.2.2.2.2.2.2.2.2.2.2.2).bind fun t26 =>
                  if t26 = t11.2.2.2.2.2.2.2.2.2.2.2.2.2.2.2.2.2.2.2.2.2 then
                    (proc_Answer.f t3.1 t3.2.1 t3.2.2.1 t3.2.2.2.1 t3.2.2.2.2.1 t3.2.2.2.2.2.1 t3.2.2.2.2.2.2.1 t3.2.2.2.2.2.2.2.1 t3.2.2.2.2.2.2.2.2.1 t3.2.2.2.2.2.2.2.2.2.1 t3.2.2.2.2.2.2.2.2.2.2.1 t3.2.2.2.2.2.2.2.2.2.2.2.1 t3.2.2.2.2.2.2.2.2.2.2.2.2.1 t3.2.2.2.2.2.2.2.2.2.2.2.2.2.1 t3.2.2.2.2.2.2.2.2.2.2.2.2.2.2.1 t3.2.2.2.2.2.2.2.2.2.2.2.2.2.2.2.1 t3.2.2.2.2.2.2.2.2.2.2.2.2.2.2.2.2.1 t3.2.2.2.2.2.2.2.2.2.2.2.2.2.2.2.2.2.1 t3.2.2.2.2.2.2.2.2.2.2.2.2.2.2.2.2.2.2.1 t3.2.2.2.2.2.2.2.2.2.2.2.2.2.2.2.2.2.2.2.1 t3.2.2.2.2.2.2.2.2.2.2.2.2.2.2.2.2.2.2.2.2 a22).bind fun t28 =>
                    (halterref33_Answer.f a0 a1 a2 a3 a4 a5 a6 a7 a8 a9 a10 a11 a12 a13 a14 a15 a16 a17 a18 a19 a20 a22).bind fun t29 =>
                    (halterlaw33_giveProc.f t29.1 t29.2.1 t29.2.2.1 t29.2.2.2.1 t29.2.2.2.2.1 t29.2.2.2.2.2.1 t29.2.2.2.2.2.2.1 t29.2.2.2.2.2.2.2.1 t29.2.2.2.2.2.2.2.2.1 t29.2.2.2.2.2.2.2.2.2.1 t29.2.2.2.2.2.2.2.2.2.2.1 t29.2.2.2.2.2.2.2.2.2.2.2.1 t29.2.2.2.2.2.2.2.2.2.2.2.2.1 t29.2.2.2.2.2.2.2.2.2.2.2.2.2.1 t29.2.2.2.2.2.2.2.2.2.2.2.2.2.2.1 t29.2.2.2.2.2.2.2.2.2.2.2.2.2.2.2.1 t29.2.2.2.2.2.2.2.2.2.2.2.2.2.2.2.2.1 t29.2.2.2.2.2.2.2.2.2.2.2.2.2.2.2.2.2.1 t29.2.2.2.2.2.2.2.2.2.2.2.2.2.2.2.2.2.2.1 t29.2.2.2.2.2.2.2.2.2.2.2.2.2.2.2.2.2.2.2.1 t29.2.2.2.2.2.2.2.2.2.2.2.2.2.2.2.2.2.2.2.2).bind fun t30 =>
                    if (t28.1 = t30.1 ∧ (t28.2.1 = t30.2.1 ∧ (t28.2.2.1 = t30.2.2.1 ∧ ((t28.2.2.2.1 = t30.2.2.2.1 ∧ (t28.2.2.2.2.1 = t30.2.2.2.2.1 ∧ (t28.2.2.2.2.2.1 = t30.2.2.2.2.2.1 ∧ t28.2.2.2.2.2.2.1 = t30.2.2.2.2.2.2.1))) ∧ (t28.2.2.2.2.2.2.2.1 = t30.2.2.2.2.2.2.2.1 ∧ ((t28.2.2.2.2.2.2.2.2.1 = t30.2.2.2.2.2.2.2.2.1 ∧ (t28.2.2.2.2.2.2.2.2.2.1 = t30.2.2.2.2.2.2.2.2.2.1 ∧ t28.2.2.2.2.2.2.2.2.2.2.1 = t30.2.2.2.2.2.2.2.2.2.2.1)) ∧ ((t28.2.2.2.2.2.2.2.2.2.2.2.1 = t30.2.2.2.2.2.2.2.2.2.2.2.1 ∧ (t28.2.2.2.2.2.2.2.2.2.2.2.2.1 = t30.2.2.2.2.2.2.2.2.2.2.2.2.1 ∧ (t28.2.2.2.2.2.2.2.2.2.2.2.2.2.1 = t30.2.2.2.2.2.2.2.2.2.2.2.2.2.1 ∧ (t28.2.2.2.2.2.2.2.2.2.2.2.2.2.2.1 = t30.2.2.2.2.2.2.2.2.2.2.2.2.2.2.1 ∧ (t28.2.2.2.2.2.2.2.2.2.2.2.2.2.2.2.1 = t30.2.2.2.2.2.2.2.2.2.2.2.2.2.2.2.1 ∧ t28.2.2.2.2.2.2.2.2.2.2.2.2.2.2.2.2.1 = t30.2.2.2.2.2.2.2.2.2.2.2.2.2.2.2.2.1))))) ∧ (t28.2.2.2.2.2.2.2.2.2.2.2.2.2.2.2.2.2.1 = t30.2.2.2.2.2.2.2.2.2.2.2.2.2.2.2.2.2.1 ∧ (t28.2.2.2.2.2.2.2.2.2.2.2.2.2.2.2.2.2.2.1 = t30.2.2.2.2.2.2.2.2.2.2.2.2.2.2.2.2.2.2.1 ∧ (t28.2.2.2.2.2.2.2.2.2.2.2.2.2.2.2.2.2.2.2.1 = t30.2.2.2.2.2.2.2.2.2.2.2.2.2.2.2.2.2.2.2.1 ∧ t28.2.2.2.2.2.2.2.2.2.2.2.2.2.2.2.2.2.2.2.2 = t30.2.2.2.2.2.2.2.2.2.2.2.2.2.2.2.2.2.2.2.2)))))))))) then
                      (proc_Letter.f t3.1 t3.2.1 t3.2.2.1 t3.2.2.2.1 t3.2.2.2.2.1 t3.2.2.2.2.2.1 t3.2.2.2.2.2.2.1 t3.2.2.2.2.2.2.2.1 t3.2.2.2.2.2.2.2.2.1 t3.2.2.2.2.2.2.2.2.2.1 t3.2.2.2.2.2.2.2.2.2.2.1 t3.2.2.2.2.2.2.2.2.2.2.2.1 t3.2.2.2.2.2.2.2.2.2.2.2.2.1 t3.2.2.2.2.2.2.2.2.2.2.2.2.2.1 t3.2.2.2.2.2.2.2.2.2.2.2.2.2.2.1 t3.2.2.2.2.2.2.2.2.2.2.2.2.2.2.2.1 t3.2.2.2.2.2.2.2.2.2.2.2.2.2.2.2.2.1 t3.2.2.2.2.2.2.2.2.2.2.2.2.2.2.2.2.2.1 t3.2.2.2.2.2.2.2.2.2.2.2.2.2.2.2.2.2.2.1 t3.2.2.2.2.2.2.2.2.2.2.2.2.2.2.2.2.2.2.2.1 t3.2.2.2.2.2.2.2.2.2.2.2.2.2.2.2.2.2.2.2.2 false).bind fun t32 =>
                      (halterref33_Letter.f a0 a1 a2 a3 a4 a5 a6 a7 a8 a9 a10 a11 a12 a13 a14 a15 a16 a17 a18 a19 a20 false).bind fun t33 =>
                      if t32 = t33 then
                        (proc_Letter.f t3.1 t3.2.1 t3.2.2.1 t3.2.2.2.1 t3.2.2.2.2.1 t3.2.2.2.2.2.1 t3.2.2.2.2.2.2.1 t3.2.2.2.2.2.2.2.1 t3.2.2.2.2.2.2.2.2.1 t3.2.2.2.2.2.2.2.2.2.1 t3.2.2.2.2.2.2.2.2.2.2.1 t3.2.2.2.2.2.2.2.2.2.2.2.1 t3.2.2.2.2.2.2.2.2.2.2.2.2.1 t3.2.2.2.2.2.2.2.2.2.2.2.2.2.1 t3.2.2.2.2.2.2.2.2.2.2.2.2.2.2.1 t3.2.2.2.2.2.2.2.2.2.2.2.2.2.2.2.1 t3.2.2.2.2.2.2.2.2.2.2.2.2.2.2.2.2.1 t3.2.2.2.2.2.2.2.2.2.2.2.2.2.2.2.2.2.1 t3.2.2.2.2.2.2.2.2.2.2.2.2.2.2.2.2.2.2.1 t3.2.2.2.2.2.2.2.2.2.2.2.2.2.2.2.2.2.2.2.1 t3.2.2.2.2.2.2.2.2.2.2.2.2.2.2.2.2.2.2.2.2 true).bind fun t35 =>
                        if t35 = (90 : Int) then
                          (proc_Runs.f t3.1 t3.2.1 t3.2.2.1 t3.2.2.2.1 t3.2.2.2.2.1 t3.2.2.2.2.2.1 t3.2.2.2.2.2.2.1 t3.2.2.2.2.2.2.2.1 t3.2.2.2.2.2.2.2.2.1 t3.2.2.2.2.2.2.2.2.2.1 t3.2.2.2.2.2.2.2.2.2.2.1 t3.2.2.2.2.2.2.2.2.2.2.2.1 t3.2.2.2.2.2.2.2.2.2.2.2.2.1 t3.2.2.2.2.2.2.2.2.2.2.2.2.2.1 t3.2.2.2.2.2.2.2.2.2.2.2.2.2.2.1 t3.2.2.2.2.2.2.2.2.2.2.2.2.2.2.2.1 t3.2.2.2.2.2.2.2.2.2.2.2.2.2.2.2.2.1 t3.2.2.2.2.2.2.2.2.2.2.2.2.2.2.2.2.2.1 t3.2.2.2.2.2.2.2.2.2.2.2.2.2.2.2.2.2.2.1 t3.2.2.2.2.2.2.2.2.2.2.2.2.2.2.2.2.2.2.2.1 t3.2.2.2.2.2.2.2.2.2.2.2.2.2.2.2.2.2.2.2.2).bind fun t37 =>
                          if ¬ (a12 = true) then
                            if t37 = (!a17) then
                              (proc_Check.f t3.1 t3.2.1 t3.2.2.1 t3.2.2.2.1 t3.2.2.2.2.1 t3.2.2.2.2.2.1 t3.2.2.2.2.2.2.1 t3.2.2.2.2.2.2.2.1 t3.2.2.2.2.2.2.2.2.1 t3.2.2.2.2.2.2.2.2.2.1 t3.2.2.2.2.2.2.2.2.2.2.1 t3.2.2.2.2.2.2.2.2.2.2.2.1 t3.2.2.2.2.2.2.2.2.2.2.2.2.1 t3.2.2.2.2.2.2.2.2.2.2.2.2.2.1 t3.2.2.2.2.2.2.2.2.2.2.2.2.2.2.1 t3.2.2.2.2.2.2.2.2.2.2.2.2.2.2.2.1 t3.2.2.2.2.2.2.2.2.2.2.2.2.2.2.2.2.1 t3.2.2.2.2.2.2.2.2.2.2.2.2.2.2.2.2.2.1 t3.2.2.2.2.2.2.2.2.2.2.2.2.2.2.2.2.2.2.1 t3.2.2.2.2.2.2.2.2.2.2.2.2.2.2.2.2.2.2.2.1 t3.2.2.2.2.2.2.2.2.2.2.2.2.2.2.2.2.2.2.2.2).bind fun t40 =>
                              (halterref33_May.f a0 a1 a2 a3 a4 a5 a6 a7 a8 a9 a10 a11 a12 a13 a14 a15 a16 a17 a18 a19 a20).bind fun t41 =>
                              if (Option.isNone t40) = t41 then
                                halterlaw33_sure.f.bind fun t43 =>
                                some t43
                              else
                                some false
                            else
                              some false
                          else
                            if t37 = false then
                              (proc_Check.f t3.1 t3.2.1 t3.2.2.1 t3.2.2.2.1 t3.2.2.2.2.1 t3.2.2.2.2.2.1 t3.2.2.2.2.2.2.1 t3.2.2.2.2.2.2.2.1 t3.2.2.2.2.2.2.2.2.1 t3.2.2.2.2.2.2.2.2.2.1 t3.2.2.2.2.2.2.2.2.2.2.1 t3.2.2.2.2.2.2.2.2.2.2.2.1 t3.2.2.2.2.2.2.2.2.2.2.2.2.1 t3.2.2.2.2.2.2.2.2.2.2.2.2.2.1 t3.2.2.2.2.2.2.2.2.2.2.2.2.2.2.1 t3.2.2.2.2.2.2.2.2.2.2.2.2.2.2.2.1 t3.2.2.2.2.2.2.2.2.2.2.2.2.2.2.2.2.1 t3.2.2.2.2.2.2.2.2.2.2.2.2.2.2.2.2.2.1 t3.2.2.2.2.2.2.2.2.2.2.2.2.2.2.2.2.2.2.1 t3.2.2.2.2.2.2.2.2.2.2.2.2.2.2.2.2.2.2.2.1 t3.2.2.2.2.2.2.2.2.2.2.2.2.2.2.2.2.2.2.2.2).bind fun t45 =>
                              (halterref33_May.f a0 a1 a2 a3 a4 a5 a6 a7 a8 a9 a10 a11 a12 a13 a14 a15 a16 a17 a18 a19 a20).bind fun t46 =>
                              if (Option.isNone t45) = t46 then
                                halterlaw33_sure.f.bind fun t48 =>
                                some t48
                              else
                                some false
                            else
                              some false
                        else
                          some false
                      else
                        some false
                    else
                      some false
                  else
                    some false
                else
                  some false
              else
                some false
            else
              some false
          else
            some false
        else
          some false
      else
        some false
    else
      some false
def halterlaw33_ProcSteps.R (r : Bool) : Tm := .v (.one (.sc (.bool r)))
end Go.Proofs.YtbnlochgbhcfnaaGreatDoorGProcSteps
