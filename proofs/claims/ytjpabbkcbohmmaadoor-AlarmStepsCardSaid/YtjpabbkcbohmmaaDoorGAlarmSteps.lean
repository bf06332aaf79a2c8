/- Printed by gen.py: what functions of the program compute, in plain Lean, and that they do. -/
import Derived.Test.YtjpabbkcbohmmaaDoorE15
import Derived.Test.YtjpabbkcbohmmaaDoorN
import Derived.Test.YtjpabbkcbohmmaaDoorF
set_option linter.unusedVariables false
set_option maxRecDepth 100000
set_option maxHeartbeats 4000000
namespace Go.Proofs.YtjpabbkcbohmmaaDoorGAlarmSteps
open Go Go.Proofs.YtjpabbkcbohmmaaDoorE
def tiL : List (Nat × TI) := [
  (3, ⟨1, 8, false, .int .i64, [.c (.sc (.int .i64 (0 : Int)))], some (.int .i64)⟩),
  (4, ⟨1, 1, false, .bool, [.c (.sc (.bool false))], some .bool⟩),
  (22, ⟨1, 24, false, (.slice 46), [.c (.sc (.slice none 0 0))], some (.sl (.pair (.int .i64) (.int .i64)))⟩),
  (23, ⟨3, 24, true, (.array 3 3), [.row 3 (.int .i64) (List.replicate 3 (0 : Int))], some (.arr 3 (.int .i64))⟩),
  (25, ⟨1, 24, false, (.slice 45), [.c (.sc (.slice none 0 0))], some (.sl (.pair (.int .i64) (.int .i64)))⟩),
  (28, ⟨1, 16, false, .iface, [.c (.err none)], none⟩),
  (33, ⟨1, 24, false, (.slice 3), [.c (.sc (.slice none 0 0))], some (.sl (.int .i64))⟩),
  (45, ⟨2, 16, true, (.struct [(0, 3), (1, 3)]), [.c (.sc (.int .i64 (0 : Int))), .c (.sc (.int .i64 (0 : Int)))], some (.pair (.int .i64) (.int .i64))⟩),
  (46, ⟨2, 16, true, (.struct [(0, 3), (1, 3)]), [.c (.sc (.int .i64 (0 : Int))), .c (.sc (.int .i64 (0 : Int)))], some (.pair (.int .i64) (.int .i64))⟩),
  (49, ⟨1, 8, false, .int .i64, [.c (.sc (.int .i64 (0 : Int)))], some (.int .i64)⟩),
  (62, ⟨1, 8, false, .int .u64, [.c (.sc (.int .u64 (0 : Int)))], some (.int .u64)⟩)]
def tabs : List (Nat × IntKind × List Int) := []
noncomputable def cfg : Cfg := ⟨Tryd.prog, 49, [(⟨0, 0, none⟩, .iface 78 (.agg #[.pointer (some ⟨1, 28, none⟩)]))] ++ tabs.flatMap tabG, tiL, [45], tabs⟩
theorem cfg_ok : COk cfg := by
  refine ⟨fun p hp => ?_, by kernel_rfl, fun p hp => ?_, fun t ht => ?_, fun x hx y hy => List.mem_append_right _ (List.mem_flatMap.2 ⟨x, hx, hy⟩)⟩
  · simp only [cfg, tiL, List.mem_cons, List.not_mem_nil, or_false] at hp
    rcases hp with rfl | rfl | rfl | rfl | rfl | rfl | rfl | rfl | rfl | rfl | rfl <;> exact ⟨by kernel_rfl, by kernel_rfl, by kernel_rfl, by kernel_rfl, by kernel_rfl, by kernel_rfl⟩
  · simp only [cfg, tiL, List.mem_cons, List.not_mem_nil, or_false] at hp
    rcases hp with rfl | rfl | rfl | rfl | rfl | rfl | rfl | rfl | rfl | rfl | rfl <;> intro fs hfs bl hbl
    · cases hfs
    · cases hfs
    · cases hfs
    · cases hfs
    · cases hfs
    · cases hfs
    · cases hfs
    · cases hfs
      have e : fieldsZ cfg.L 0 [(0, 3), (1, 3)] = some [[.c (.sc (.int .i64 (0 : Int)))], [.c (.sc (.int .i64 (0 : Int)))]] := by kernel_rfl
      rw [e] at hbl
      cases hbl
      exact (by kernel_rfl : encPs (List.flatten [[.c (.sc (.int .i64 (0 : Int)))], [.c (.sc (.int .i64 (0 : Int)))]]) = encPs [.c (.sc (.int .i64 (0 : Int))), .c (.sc (.int .i64 (0 : Int)))])
    · cases hfs
      have e : fieldsZ cfg.L 0 [(0, 3), (1, 3)] = some [[.c (.sc (.int .i64 (0 : Int)))], [.c (.sc (.int .i64 (0 : Int)))]] := by kernel_rfl
      rw [e] at hbl
      cases hbl
      exact (by kernel_rfl : encPs (List.flatten [[.c (.sc (.int .i64 (0 : Int)))], [.c (.sc (.int .i64 (0 : Int)))]]) = encPs [.c (.sc (.int .i64 (0 : Int))), .c (.sc (.int .i64 (0 : Int)))])
    · cases hfs
    · cases hfs
  · simp only [cfg, List.mem_cons, List.not_mem_nil, or_false] at ht
    rcases ht with rfl <;> kernel_rfl
def fin : Scr → List Adj
  | .adj l _ => l
  | _ => []
abbrev z2 {a0 a1 a2 : Type} (x : a0 × a1 × a2) : a2 := x.2.2
/-! the error's number -/
def num.f (a0 : Option Int) : Option Int := some (a0.getD 0)
def num.R (r : Int) : Tm := .v (.one (.sc (.int .i64 r)))
theorem num.fun_ {a0 : Option Int} {r : Int} (h : num.f a0 = some r) : Fun cfg 11 [.one (.err a0)] [] (num.R r) [] := by
  refine Fun.of_below (f := 11) (fn := Tryd.f11) Tryd.func11 rfl (by kernel_rfl) (r := .int .i64 r) (fun X => ⟨⟨rfl, rfl⟩, rfl⟩) fun X vs hE hvs hG => ?_
  obtain ⟨v, us, rfl, hv, rfl⟩ := hvs
  have hv : v = errV X.E a0 := hv.1
  have he : errV cfg.E a0 = YtjpabbkcbohmmaaDoorN.errW a0 := by cases a0 <;> rfl
  rw [hv, hE, he]
  exact YtjpabbkcbohmmaaDoorN.num.calls a0 r X.w (hG _ (List.mem_append_left _ (List.mem_cons_self ..))) h
/-! slices.Insert[[]halter/alarm.Alarm,halter/alarm.Alarm], by hand -/
def alarm_Insert.f (a0 : Nat) (a1 : Int) (a2 : List (Int × Int)) (a3 : List (Int × Int)) : Option (List (Int × Int)) := match a2 with
  | [x] => if 0 ≤ a1 ∧ a1.toNat ≤ a0 ∧ a0 ≤ List.length a3 ∧ (a0 + 1) * 16 ≤ 140737488355328 then some (List.take a1.toNat (List.take a0 a3) ++ (x :: List.drop a1.toNat (List.take a0 a3))) else none
  | _ => none
def alarm_Insert.R (t : List (Int × Int)) : Tm := .v (.one (.os 0 0 0 2 (List.length t) none))
def alarm_Insert.B (a0 : Nat) (a1 : Int) (a2 : List (Int × Int)) (a3 : List (Int × Int)) (t : List (Int × Int)) : List Box := [.gro false (.pair (.int .i64) (.int .i64)) t 45]
theorem alarm_Insert.fun_ {a0 : Nat} {a1 : Int} {a2 a3 t : List (Int × Int)} (h : alarm_Insert.f a0 a1 a2 a3 = some t) : Fun cfg 22 [.one (.os 0 0 0 2 a0 none), .one (.sc (.int .i64 a1)), .one (.fs (.pair (.int .i64) (.int .i64)) a2 false)] [.gro false (.pair (.int .i64) (.int .i64)) a3 45] (alarm_Insert.R t) (alarm_Insert.B a0 a1 a2 a3 t) := by
  unfold alarm_Insert.f at h
  split at h
  · rename_i x
    split at h
    · rename_i hc
      obtain ⟨h0, h1, h2, h3⟩ := hc
      cases h
      obtain ⟨k, rfl⟩ := Int.eq_ofNat_of_zero_le h0
      exact YtjpabbkcbohmmaaDoorF.ins_fun2 (C := cfg) rfl cfg_ok (L := a3) (x := x) (i := k) (k := a0) h2 h1 h3 rfl (fun l => by kernel_rfl)
    · cases h
  · cases h
def alarm_InsertT.f (a1 : Int) (a2 : List (Int × Int)) (a3 : List (Int × Int)) : Option (List (Int × Int)) := match a2 with
  | [x] => if 0 ≤ a1 ∧ a1.toNat ≤ (List.length a3) ∧ (List.length a3) ≤ List.length a3 ∧ ((List.length a3) + 1) * 16 ≤ 140737488355328 then some (List.take a1.toNat (List.take (List.length a3) a3) ++ (x :: List.drop a1.toNat (List.take (List.length a3) a3))) else none
  | _ => none
def alarm_InsertT.R (t : List (Int × Int)) : Tm := .v (.one (.os 0 0 0 2 (List.length t) none))
def alarm_InsertT.B (a1 : Int) (a2 : List (Int × Int)) (a3 : List (Int × Int)) (t : List (Int × Int)) : List Box := [.gro false (.pair (.int .i64) (.int .i64)) t 45]
theorem alarm_InsertT.fun_ {a1 : Int} {a2 a3 t : List (Int × Int)} (h : alarm_InsertT.f a1 a2 a3 = some t) : Fun cfg 22 [.one (.os 0 0 0 2 (List.length a3) none), .one (.sc (.int .i64 a1)), .one (.fs (.pair (.int .i64) (.int .i64)) a2 false)] [.gro false (.pair (.int .i64) (.int .i64)) a3 45] (alarm_InsertT.R t) (alarm_InsertT.B a1 a2 a3 t) := by
  unfold alarm_InsertT.f at h
  split at h
  · rename_i x
    split at h
    · rename_i hc
      obtain ⟨h0, h1, h2, h3⟩ := hc
      cases h
      obtain ⟨k, rfl⟩ := Int.eq_ofNat_of_zero_le h0
      exact YtjpabbkcbohmmaaDoorF.ins_fun2 (C := cfg) rfl cfg_ok (L := a3) (x := x) (i := k) (k := (List.length a3)) h2 h1 h3 rfl (fun l => by kernel_rfl)
    · cases h
  · cases h
/-! halter/pids.Check -/
def pids_Check.f (a0 : Int) : Option (Option Int) :=
  if a0 < (1 : Int) then
    some (some (22 : Int))
  else
    if a0 > (99 : Int) then
      some (some (22 : Int))
    else
      some none
def pids_Check.R (r : (Option Int)) : Tm := .v (.one (.err r))
theorem pids_Check.fun_ {a0 : Int} {r : (Option Int)} (h : pids_Check.f a0 = some r) : Fun cfg 16 [.one (.sc (.int .i64 a0))] [] (pids_Check.R r) [] := by
  unfold pids_Check.f at h
  refine fun_of_run cfg_ok (f := 16) (fn := Tryd.f16) Tryd.func16 rfl (by kernel_rfl) (rs := [.tmp 2]) rfl (nt := 10) rfl (l := fin) (k := (.br (oT 3 (aE 3 .nil)) (oF 2 (.br (aE 3 .nil) (aE 4 .nil))))) (to_goal (q := (True) ∧ (((decide (a0 < (1 : Int))) = false → ((decide (a0 < (1 : Int))) = false ∧ (True) ∧ ((decide (a0 < (1 : Int))) = false ∧ (((decide (a0 > (99 : Int))) = true → (True ∧ (True ∧ ((True) ∧ (True) ∧ (.v (.one (.err (some (22 : Int)))) : Tm) = pids_Check.R r ∧ ([] : List Box) = [])))) ∧ ((decide (a0 > (99 : Int))) = false → (True ∧ (True ∧ (True ∧ ((True) ∧ (True) ∧ (.v (.one (.err none)) : Tm) = pids_Check.R r ∧ ([] : List Box) = []))))))))) ∧ ((decide (a0 < (1 : Int))) = true → ((decide (a0 < (1 : Int))) = true ∧ ((decide (a0 < (1 : Int))) = true ∧ (true = true ∧ (True ∧ (True ∧ ((True) ∧ (True) ∧ (.v (.one (.err (some (22 : Int)))) : Tm) = pids_Check.R r ∧ ([] : List Box) = []))))))))) (by kernel_rfl) ?_)
  refine ⟨trivial, ?_⟩
  refine ⟨fun b1 => ?_, fun b1 => ?_⟩
  · rw [if_neg (of_decide_eq_false b1)] at h
    refine ⟨b1, ?_⟩
    refine ⟨trivial, ?_⟩
    refine ⟨b1, ?_⟩
    refine ⟨fun b2 => ?_, fun b2 => ?_⟩
    · rw [if_pos (of_decide_eq_true b2)] at h
      refine ⟨trivial, trivial, ?_⟩
      obtain rfl := Option.some.inj h
      exact ⟨trivial, trivial, rfl, rfl⟩
    · rw [if_neg (of_decide_eq_false b2)] at h
      refine ⟨trivial, trivial, trivial, ?_⟩
      obtain rfl := Option.some.inj h
      exact ⟨trivial, trivial, rfl, rfl⟩
  · rw [if_pos (of_decide_eq_true b1)] at h
    refine ⟨b1, ?_⟩
    refine ⟨b1, ?_⟩
    refine ⟨rfl, trivial, trivial, ?_⟩
    obtain rfl := Option.some.inj h
    exact ⟨trivial, trivial, rfl, rfl⟩
/-! halter/alarm.Check -/
def alarm_Check.l0 (a0 : (List (Int × Int))) : Nat → Int → Option ((Unit) ⊕ (Unit))
  | 0, _ => none
  | n + 1, x1 =>
    if x1 < (((List.length a0) : Nat) : Int) then
      if 0 ≤ x1 ∧ x1 < (((List.length a0) : Nat) : Int) then
        (pids_Check.f (List.getD a0 (Int.toNat x1) ((0 : Int), (0 : Int))).1).bind fun t13 =>
        if ¬ (t13 = none) then
          some (.inr ())
        else
          if (List.getD a0 (Int.toNat x1) ((0 : Int), (0 : Int))).2 < (1 : Int) then
            some (.inr ())
          else
            if (List.getD a0 (Int.toNat x1) ((0 : Int), (0 : Int))).2 > (1099511627776 : Int) then
              some (.inr ())
            else
              if x1 > (0 : Int) then
                if 0 ≤ (IntKind.wrap .i64 (x1 - (1 : Int))) ∧ (IntKind.wrap .i64 (x1 - (1 : Int))) < (((List.length a0) : Nat) : Int) then
                  if (List.getD a0 (Int.toNat (IntKind.wrap .i64 (x1 - (1 : Int)))) ((0 : Int), (0 : Int))).1 ≥ (List.getD a0 (Int.toNat x1) ((0 : Int), (0 : Int))).1 then
                    some (.inr ())
                  else
                    alarm_Check.l0 a0 n (IntKind.wrap .i64 (x1 + (1 : Int)))
                else none
              else
                alarm_Check.l0 a0 n (IntKind.wrap .i64 (x1 + (1 : Int)))
      else none
    else
      some (.inl ())
def alarm_Check.l0_S (a0 : (List (Int × Int))) (x1 : Int) : St := ⟨[.v (.one (.fs (.pair (.int .i64) (.int .i64)) a0 false)), .any, .any, .any, .any, .v (.one (.fs (.pair (.int .i64) (.int .i64)) a0 false)), .v (.one (.sc (.int .i64 (((List.length a0) : Nat) : Int)))), .v (.one (.sc (.int .i64 x1))), .any, .any, .any, .any, .any, .any, .any, .any, .any, .any, .any, .any, .any, .any, .any, .any, .any, .any, .any, .any, .any, .any, .any, .any, .any, .any, .any, .any, .any, .any, .any, .any, .any, .any, .any], [], 0⟩
def alarm_Check.l0_Q (a0 : (List (Int × Int))) : (Unit) ⊕ (Unit) → Exit → St → Prop
  | .inl t => fun e s => e = (.exit 0) ∧ s = ⟨[.any, .any, .any, .any, .any, .any, .any, .any, .any, .any, .any, .any, .any, .any, .any, .any, .any, .any, .any, .any, .any, .any, .any, .any, .any, .any, .any, .any, .any, .any, .any, .any, .any, .any, .any, .any, .any, .any, .any, .any, .any, .any, .any], [], 0⟩
  | .inr t => fun e s => e = .ret ∧ s = ⟨[.any, .any, .v (.one (.err (some (22 : Int)))), .any, .any, .any, .any, .any, .any, .any, .any, .any, .any, .any, .any, .any, .any, .any, .any, .any, .any, .any, .any, .any, .any, .any, .any, .any, .any, .any, .any, .any, .any, .any, .any, .any, .any, .any, .any, .any, .any, .any, .any], [], 0⟩
theorem alarm_Check.l0_ok (a0 : (List (Int × Int))) : ∀ (n : Nat) (x1 : Int) (r : (Unit) ⊕ (Unit)), alarm_Check.l0 a0 n x1 = some r → TripN cfg (cpath (Tryd.f13.body.getD .skip) [1, 0, 1, 0, 0]) n (alarm_Check.l0_S a0 x1) (alarm_Check.l0_Q a0 r) := by
  intro n
  induction n with
  | zero => intro x1 r h; cases h
  | succ n ih =>
    intro x1 r h
    rw [alarm_Check.l0] at h
    refine TripN.of_run cfg_ok (k := (.br (.ex ((Option Int)) (fun t13 => (.emb (!(Option.isNone t13)) (.dr [(0, dN), (1, dN), (2, ⟨none, .callP true [] (pids_Check.R t13), false⟩), (3, dN), (4, dN), (5, dT), (6, dT), (7, dT), (8, d1), (9, dN), (10, dT), (11, dT), (12, dT), (13, d1), (14, dN), (15, dT), (16, dT), (17, dT), (18, dT), (19, dT), (20, dT), (21, dT), (22, dT), (24, dT), (23, dT), (25, dT), (26, dT), (27, dT), (28, d1)] (.one true (.adj [] (.adj [.keep [2], .drop 0] .nil)))) (.emb (decide ((List.getD a0 (Int.toNat x1) ((0 : Int), (0 : Int))).2 < (1 : Int))) (.dr [(0, dN), (1, dN), (2, ⟨none, .callP true [] (pids_Check.R t13), false⟩), (3, dN), (4, dN), (5, dF), (6, dF), (7, dF), (8, d0), (9, dN), (10, dT), (11, dT), (12, dT), (13, d1), (14, dN), (15, dT), (16, dT), (17, dT), (18, dT), (19, dT), (20, dT), (21, dT), (22, dT), (24, dT), (23, dT), (25, dT), (26, dT), (27, dT), (28, d1)] (.one true (.adj [] (.adj [.keep [2], .drop 0] .nil)))) (.emb (decide ((List.getD a0 (Int.toNat x1) ((0 : Int), (0 : Int))).2 > (1099511627776 : Int))) (.dr [(0, dN), (1, dN), (2, ⟨none, .callP true [] (pids_Check.R t13), false⟩), (3, dN), (4, dN), (5, dF), (6, dF), (7, dF), (8, d0), (9, dN), (10, dF), (11, dF), (12, dF), (13, d0), (14, dN), (15, dT), (16, dT), (17, dT), (18, dT), (19, dT), (20, dT), (21, dT), (22, dT), (24, dT), (23, dT), (25, dT), (26, dT), (27, dT), (28, d1)] (.one true (.adj [] (.adj [.keep [2], .drop 0] .nil)))) (.emb (decide (x1 > (0 : Int))) (.dr [(0, dN), (1, dN), (2, ⟨none, .callP true [] (pids_Check.R t13), false⟩), (3, dN), (4, dN), (5, dF), (6, dF), (7, dF), (8, d0), (9, dN), (10, dF), (11, dF), (12, dF), (13, d0), (14, dN), (15, dF), (16, dF), (17, dF), (18, dT), (19, dT), (20, dT), (21, dT), (22, dT), (24, dT), (23, dT), (25, dT), (26, dT), (27, ⟨(some false), .b true, false⟩), (28, d0)] (.br (.adj [] (.adj [.keep [2], .drop 0] .nil)) (aE 2 (.adj [.keep [0, 5, 6, 7], .drop 0] .nil)))) (.dr [(0, dN), (1, dN), (2, ⟨none, .callP true [] (pids_Check.R t13), false⟩), (3, dN), (4, dN), (5, dF), (6, dF), (7, dF), (8, d0), (9, dN), (10, dF), (11, dF), (12, dF), (13, d0), (14, dN), (15, dF), (16, dF), (17, dF), (18, dF), (19, dF), (20, dF), (21, dF), (22, dF), (24, dF), (23, dF), (25, dF), (26, dF), (27, ⟨(some false), .b false, false⟩), (28, d0)] (.one false (aE 2 (.adj [.keep [0, 5, 6, 7], .drop 0] .nil)))))))))) (.adj [.keep [], .drop 0] .nil))) (to_goal (q := (True) ∧ (((decide (x1 < (((List.length a0) : Nat) : Int))) = true → (0 ≤ x1 ∧ x1 < (((List.length a0) : Nat) : Int)) ∧ (True) ∧ (True) ∧ (∃ t13 : (Option Int), (((!(Option.isNone t13)) = true → (True) ∧ (Fun cfg 16 [.one (.sc (.int .i64 (List.getD a0 (Int.toNat x1) ((0 : Int), (0 : Int))).1))] [] (pids_Check.R t13) [] ∧ True) ∧ (True) ∧ ((!(Option.isNone t13)) = true) ∧ ((!(Option.isNone t13)) = true) ∧ ((!(Option.isNone t13)) = true) ∧ ((!(Option.isNone t13)) = true) ∧ (true = true) ∧ (true = true) ∧ (true = true) ∧ (true = true) ∧ (true = true) ∧ (true = true) ∧ (true = true) ∧ (True) ∧ (True) ∧ (True) ∧ (True) ∧ (True) ∧ (True) ∧ (True) ∧ (True) ∧ (True) ∧ (true = true) ∧ (true = true) ∧ (true = true ∧ (True ∧ (((True) ∧ (True) ∧ True) ∧ alarm_Check.l0_Q a0 r .ret ⟨[.any, .any, .v (.one (.err (some (22 : Int)))), .any, .any, .any, .any, .any, .any, .any, .any, .any, .any, .any, .any, .any, .any, .any, .any, .any, .any, .any, .any, .any, .any, .any, .any, .any, .any, .any, .any, .any, .any, .any, .any, .any, .any, .any, .any, .any, .any, .any, .any], [], 0⟩)))) ∧ ((!(Option.isNone t13)) = false → (((decide ((List.getD a0 (Int.toNat x1) ((0 : Int), (0 : Int))).2 < (1 : Int))) = true → (True) ∧ (Fun cfg 16 [.one (.sc (.int .i64 (List.getD a0 (Int.toNat x1) ((0 : Int), (0 : Int))).1))] [] (pids_Check.R t13) [] ∧ True) ∧ (True) ∧ ((!(Option.isNone t13)) = false ∧ True) ∧ ((!(Option.isNone t13)) = false ∧ True) ∧ ((!(Option.isNone t13)) = false ∧ True) ∧ ((!(Option.isNone t13)) = false) ∧ ((decide ((List.getD a0 (Int.toNat x1) ((0 : Int), (0 : Int))).2 < (1 : Int))) = true) ∧ ((decide ((List.getD a0 (Int.toNat x1) ((0 : Int), (0 : Int))).2 < (1 : Int))) = true) ∧ ((decide ((List.getD a0 (Int.toNat x1) ((0 : Int), (0 : Int))).2 < (1 : Int))) = true) ∧ ((decide ((List.getD a0 (Int.toNat x1) ((0 : Int), (0 : Int))).2 < (1 : Int))) = true) ∧ (true = true) ∧ (true = true) ∧ (true = true) ∧ (True) ∧ (True) ∧ (True) ∧ (True) ∧ (True) ∧ (True) ∧ (True) ∧ (True) ∧ (True) ∧ (true = true) ∧ (true = true) ∧ (true = true ∧ (True ∧ (((True) ∧ (True) ∧ True) ∧ alarm_Check.l0_Q a0 r .ret ⟨[.any, .any, .v (.one (.err (some (22 : Int)))), .any, .any, .any, .any, .any, .any, .any, .any, .any, .any, .any, .any, .any, .any, .any, .any, .any, .any, .any, .any, .any, .any, .any, .any, .any, .any, .any, .any, .any, .any, .any, .any, .any, .any, .any, .any, .any, .any, .any, .any], [], 0⟩)))) ∧ ((decide ((List.getD a0 (Int.toNat x1) ((0 : Int), (0 : Int))).2 < (1 : Int))) = false → (((decide ((List.getD a0 (Int.toNat x1) ((0 : Int), (0 : Int))).2 > (1099511627776 : Int))) = true → (True) ∧ (Fun cfg 16 [.one (.sc (.int .i64 (List.getD a0 (Int.toNat x1) ((0 : Int), (0 : Int))).1))] [] (pids_Check.R t13) [] ∧ True) ∧ (True) ∧ ((!(Option.isNone t13)) = false ∧ True) ∧ ((!(Option.isNone t13)) = false ∧ True) ∧ ((!(Option.isNone t13)) = false ∧ True) ∧ ((!(Option.isNone t13)) = false) ∧ ((decide ((List.getD a0 (Int.toNat x1) ((0 : Int), (0 : Int))).2 < (1 : Int))) = false ∧ True) ∧ ((decide ((List.getD a0 (Int.toNat x1) ((0 : Int), (0 : Int))).2 < (1 : Int))) = false ∧ True) ∧ ((decide ((List.getD a0 (Int.toNat x1) ((0 : Int), (0 : Int))).2 < (1 : Int))) = false ∧ True) ∧ ((decide ((List.getD a0 (Int.toNat x1) ((0 : Int), (0 : Int))).2 < (1 : Int))) = false) ∧ ((decide ((List.getD a0 (Int.toNat x1) ((0 : Int), (0 : Int))).2 > (1099511627776 : Int))) = true) ∧ ((decide ((List.getD a0 (Int.toNat x1) ((0 : Int), (0 : Int))).2 > (1099511627776 : Int))) = true) ∧ ((decide ((List.getD a0 (Int.toNat x1) ((0 : Int), (0 : Int))).2 > (1099511627776 : Int))) = true) ∧ (True) ∧ (True) ∧ (True) ∧ (True) ∧ (True) ∧ (True) ∧ (True) ∧ (True) ∧ (True) ∧ ((decide ((List.getD a0 (Int.toNat x1) ((0 : Int), (0 : Int))).2 > (1099511627776 : Int))) = true) ∧ ((decide ((List.getD a0 (Int.toNat x1) ((0 : Int), (0 : Int))).2 > (1099511627776 : Int))) = true) ∧ (true = true ∧ (True ∧ (((True) ∧ (True) ∧ True) ∧ alarm_Check.l0_Q a0 r .ret ⟨[.any, .any, .v (.one (.err (some (22 : Int)))), .any, .any, .any, .any, .any, .any, .any, .any, .any, .any, .any, .any, .any, .any, .any, .any, .any, .any, .any, .any, .any, .any, .any, .any, .any, .any, .any, .any, .any, .any, .any, .any, .any, .any, .any, .any, .any, .any, .any, .any], [], 0⟩)))) ∧ ((decide ((List.getD a0 (Int.toNat x1) ((0 : Int), (0 : Int))).2 > (1099511627776 : Int))) = false → (((decide (x1 > (0 : Int))) = true → (True) ∧ (Fun cfg 16 [.one (.sc (.int .i64 (List.getD a0 (Int.toNat x1) ((0 : Int), (0 : Int))).1))] [] (pids_Check.R t13) [] ∧ True) ∧ (True) ∧ ((!(Option.isNone t13)) = false ∧ True) ∧ ((!(Option.isNone t13)) = false ∧ True) ∧ ((!(Option.isNone t13)) = false ∧ True) ∧ ((!(Option.isNone t13)) = false) ∧ ((decide ((List.getD a0 (Int.toNat x1) ((0 : Int), (0 : Int))).2 < (1 : Int))) = false ∧ True) ∧ ((decide ((List.getD a0 (Int.toNat x1) ((0 : Int), (0 : Int))).2 < (1 : Int))) = false ∧ True) ∧ ((decide ((List.getD a0 (Int.toNat x1) ((0 : Int), (0 : Int))).2 < (1 : Int))) = false ∧ True) ∧ ((decide ((List.getD a0 (Int.toNat x1) ((0 : Int), (0 : Int))).2 < (1 : Int))) = false) ∧ ((decide ((List.getD a0 (Int.toNat x1) ((0 : Int), (0 : Int))).2 > (1099511627776 : Int))) = false ∧ True) ∧ ((decide ((List.getD a0 (Int.toNat x1) ((0 : Int), (0 : Int))).2 > (1099511627776 : Int))) = false ∧ True) ∧ ((decide ((List.getD a0 (Int.toNat x1) ((0 : Int), (0 : Int))).2 > (1099511627776 : Int))) = false ∧ True) ∧ ((decide (x1 > (0 : Int))) = true ∧ True) ∧ ((decide (x1 > (0 : Int))) = true ∧ True) ∧ ((decide (x1 > (0 : Int))) = true ∧ True) ∧ ((decide (x1 > (0 : Int))) = true ∧ 0 ≤ (IntKind.wrap .i64 (x1 - (1 : Int))) ∧ (IntKind.wrap .i64 (x1 - (1 : Int))) < (((List.length a0) : Nat) : Int)) ∧ ((decide (x1 > (0 : Int))) = true ∧ True) ∧ ((decide (x1 > (0 : Int))) = true ∧ True) ∧ ((decide (x1 > (0 : Int))) = true ∧ True) ∧ ((decide (x1 > (0 : Int))) = true ∧ True) ∧ ((decide (x1 > (0 : Int))) = true ∧ True) ∧ ((decide ((List.getD a0 (Int.toNat x1) ((0 : Int), (0 : Int))).2 > (1099511627776 : Int))) = false ∧ (decide (x1 > (0 : Int))) = true) ∧ ((decide ((List.getD a0 (Int.toNat x1) ((0 : Int), (0 : Int))).2 > (1099511627776 : Int))) = false) ∧ (((decide ((List.getD a0 (Int.toNat (IntKind.wrap .i64 (x1 - (1 : Int)))) ((0 : Int), (0 : Int))).1 ≥ (List.getD a0 (Int.toNat x1) ((0 : Int), (0 : Int))).1)) = true → (True ∧ (((True) ∧ (True) ∧ True) ∧ alarm_Check.l0_Q a0 r .ret ⟨[.any, .any, .v (.one (.err (some (22 : Int)))), .any, .any, .any, .any, .any, .any, .any, .any, .any, .any, .any, .any, .any, .any, .any, .any, .any, .any, .any, .any, .any, .any, .any, .any, .any, .any, .any, .any, .any, .any, .any, .any, .any, .any, .any, .any, .any, .any, .any, .any], [], 0⟩))) ∧ ((decide ((List.getD a0 (Int.toNat (IntKind.wrap .i64 (x1 - (1 : Int)))) ((0 : Int), (0 : Int))).1 ≥ (List.getD a0 (Int.toNat x1) ((0 : Int), (0 : Int))).1)) = false → (True ∧ (True ∧ (True) ∧ (((True) ∧ (True) ∧ True) ∧ TripN cfg (cpath (Tryd.f13.body.getD .skip) [1, 0, 1, 0, 0]) n (alarm_Check.l0_S a0 (IntKind.wrap .i64 (x1 + (1 : Int)))) (alarm_Check.l0_Q a0 r))))))) ∧ ((decide (x1 > (0 : Int))) = false → (True) ∧ (Fun cfg 16 [.one (.sc (.int .i64 (List.getD a0 (Int.toNat x1) ((0 : Int), (0 : Int))).1))] [] (pids_Check.R t13) [] ∧ True) ∧ (True) ∧ ((!(Option.isNone t13)) = false ∧ True) ∧ ((!(Option.isNone t13)) = false ∧ True) ∧ ((!(Option.isNone t13)) = false ∧ True) ∧ ((!(Option.isNone t13)) = false) ∧ ((decide ((List.getD a0 (Int.toNat x1) ((0 : Int), (0 : Int))).2 < (1 : Int))) = false ∧ True) ∧ ((decide ((List.getD a0 (Int.toNat x1) ((0 : Int), (0 : Int))).2 < (1 : Int))) = false ∧ True) ∧ ((decide ((List.getD a0 (Int.toNat x1) ((0 : Int), (0 : Int))).2 < (1 : Int))) = false ∧ True) ∧ ((decide ((List.getD a0 (Int.toNat x1) ((0 : Int), (0 : Int))).2 < (1 : Int))) = false) ∧ ((decide ((List.getD a0 (Int.toNat x1) ((0 : Int), (0 : Int))).2 > (1099511627776 : Int))) = false ∧ True) ∧ ((decide ((List.getD a0 (Int.toNat x1) ((0 : Int), (0 : Int))).2 > (1099511627776 : Int))) = false ∧ True) ∧ ((decide ((List.getD a0 (Int.toNat x1) ((0 : Int), (0 : Int))).2 > (1099511627776 : Int))) = false ∧ True) ∧ ((decide (x1 > (0 : Int))) = false) ∧ ((decide (x1 > (0 : Int))) = false) ∧ ((decide (x1 > (0 : Int))) = false) ∧ ((decide (x1 > (0 : Int))) = false) ∧ ((decide (x1 > (0 : Int))) = false) ∧ ((decide (x1 > (0 : Int))) = false) ∧ ((decide (x1 > (0 : Int))) = false) ∧ ((decide (x1 > (0 : Int))) = false) ∧ ((decide (x1 > (0 : Int))) = false) ∧ ((decide ((List.getD a0 (Int.toNat x1) ((0 : Int), (0 : Int))).2 > (1099511627776 : Int))) = false ∧ (decide (x1 > (0 : Int))) = false) ∧ ((decide ((List.getD a0 (Int.toNat x1) ((0 : Int), (0 : Int))).2 > (1099511627776 : Int))) = false) ∧ (false = false ∧ (True ∧ (True ∧ (True) ∧ (((True) ∧ (True) ∧ True) ∧ TripN cfg (cpath (Tryd.f13.body.getD .skip) [1, 0, 1, 0, 0]) n (alarm_Check.l0_S a0 (IntKind.wrap .i64 (x1 + (1 : Int)))) (alarm_Check.l0_Q a0 r))))))))))))))) ∧ ((decide (x1 < (((List.length a0) : Nat) : Int))) = false → (((True) ∧ (True) ∧ True) ∧ alarm_Check.l0_Q a0 r (.exit 0) ⟨[.any, .any, .any, .any, .any, .any, .any, .any, .any, .any, .any, .any, .any, .any, .any, .any, .any, .any, .any, .any, .any, .any, .any, .any, .any, .any, .any, .any, .any, .any, .any, .any, .any, .any, .any, .any, .any, .any, .any, .any, .any, .any, .any], [], 0⟩)))) (by kernel_rfl) ?_)
    refine ⟨trivial, ?_⟩
    refine ⟨fun b12 => ?_, fun b12 => ?_⟩
    · rw [if_pos (of_decide_eq_true b12)] at h
      obtain ⟨g20, h⟩ := of_guard h
      refine ⟨g20, ?_⟩
      refine ⟨trivial, trivial, ?_⟩
      obtain ⟨t13, ht13, h⟩ := of_bind h
      refine ⟨t13, ?_⟩
      refine ⟨fun b14 => ?_, fun b14 => ?_⟩
      · rw [if_pos (none_f (not_t b14))] at h
        refine ⟨trivial, ⟨pids_Check.fun_ ht13, trivial⟩, trivial, b14, b14, b14, b14, rfl, rfl, rfl, rfl, rfl, rfl, rfl, trivial, trivial, trivial, trivial, trivial, trivial, trivial, trivial, trivial, rfl, rfl, ?_⟩
        refine ⟨rfl, trivial, ?_⟩
        obtain rfl := Option.some.inj h
        exact ⟨⟨trivial, trivial, trivial⟩, rfl, rfl⟩
      · rw [if_neg (not_not_intro (none_t (not_f b14)))] at h
        refine ⟨fun b15 => ?_, fun b15 => ?_⟩
        · rw [if_pos (of_decide_eq_true b15)] at h
          refine ⟨trivial, ⟨pids_Check.fun_ ht13, trivial⟩, trivial, ⟨b14, trivial⟩, ⟨b14, trivial⟩, ⟨b14, trivial⟩, b14, b15, b15, b15, b15, rfl, rfl, rfl, trivial, trivial, trivial, trivial, trivial, trivial, trivial, trivial, trivial, rfl, rfl, ?_⟩
          refine ⟨rfl, trivial, ?_⟩
          obtain rfl := Option.some.inj h
          exact ⟨⟨trivial, trivial, trivial⟩, rfl, rfl⟩
        · rw [if_neg (of_decide_eq_false b15)] at h
          refine ⟨fun b16 => ?_, fun b16 => ?_⟩
          · rw [if_pos (of_decide_eq_true b16)] at h
            refine ⟨trivial, ⟨pids_Check.fun_ ht13, trivial⟩, trivial, ⟨b14, trivial⟩, ⟨b14, trivial⟩, ⟨b14, trivial⟩, b14, ⟨b15, trivial⟩, ⟨b15, trivial⟩, ⟨b15, trivial⟩, b15, b16, b16, b16, trivial, trivial, trivial, trivial, trivial, trivial, trivial, trivial, trivial, b16, b16, ?_⟩
            refine ⟨rfl, trivial, ?_⟩
            obtain rfl := Option.some.inj h
            exact ⟨⟨trivial, trivial, trivial⟩, rfl, rfl⟩
          · rw [if_neg (of_decide_eq_false b16)] at h
            refine ⟨fun b17 => ?_, fun b17 => ?_⟩
            · rw [if_pos (of_decide_eq_true b17)] at h
              obtain ⟨g18, h⟩ := of_guard h
              refine ⟨trivial, ⟨pids_Check.fun_ ht13, trivial⟩, trivial, ⟨b14, trivial⟩, ⟨b14, trivial⟩, ⟨b14, trivial⟩, b14, ⟨b15, trivial⟩, ⟨b15, trivial⟩, ⟨b15, trivial⟩, b15, ⟨b16, trivial⟩, ⟨b16, trivial⟩, ⟨b16, trivial⟩, ⟨b17, trivial⟩, ⟨b17, trivial⟩, ⟨b17, trivial⟩, ⟨b17, g18⟩, ⟨b17, trivial⟩, ⟨b17, trivial⟩, ⟨b17, trivial⟩, ⟨b17, trivial⟩, ⟨b17, trivial⟩, ⟨b16, b17⟩, b16, ?_⟩
              refine ⟨fun b19 => ?_, fun b19 => ?_⟩
              · rw [if_pos (of_decide_eq_true b19)] at h
                refine ⟨trivial, ?_⟩
                obtain rfl := Option.some.inj h
                exact ⟨⟨trivial, trivial, trivial⟩, rfl, rfl⟩
              · rw [if_neg (of_decide_eq_false b19)] at h
                refine ⟨trivial, trivial, trivial, ?_⟩
                exact ⟨⟨trivial, trivial, trivial⟩, ih (IntKind.wrap .i64 (x1 + (1 : Int))) r h⟩
            · rw [if_neg (of_decide_eq_false b17)] at h
              refine ⟨trivial, ⟨pids_Check.fun_ ht13, trivial⟩, trivial, ⟨b14, trivial⟩, ⟨b14, trivial⟩, ⟨b14, trivial⟩, b14, ⟨b15, trivial⟩, ⟨b15, trivial⟩, ⟨b15, trivial⟩, b15, ⟨b16, trivial⟩, ⟨b16, trivial⟩, ⟨b16, trivial⟩, b17, b17, b17, b17, b17, b17, b17, b17, b17, ⟨b16, b17⟩, b16, ?_⟩
              refine ⟨rfl, trivial, trivial, trivial, ?_⟩
              exact ⟨⟨trivial, trivial, trivial⟩, ih (IntKind.wrap .i64 (x1 + (1 : Int))) r h⟩
    · rw [if_neg (of_decide_eq_false b12)] at h
      obtain rfl := Option.some.inj h
      exact ⟨⟨trivial, trivial, trivial⟩, rfl, rfl⟩
def alarm_Check.f (a0 : (List (Int × Int))) : Option (Option Int) :=
  (alarm_Check.l0 a0 FUEL (0 : Int)).bind fun t11 =>
  match t11 with
  | .inl t21 =>
    some none
  | .inr t22 =>
    some (some (22 : Int))
def alarm_Check.R (r : (Option Int)) : Tm := .v (.one (.err r))
theorem alarm_Check.fun_ {a0 : (List (Int × Int))} {r : (Option Int)} (h : alarm_Check.f a0 = some r) : Fun cfg 13 [.one (.fs (.pair (.int .i64) (.int .i64)) a0 false)] [] (alarm_Check.R r) [] := by
  unfold alarm_Check.f at h
  refine fun_of_run cfg_ok (f := 13) (fn := Tryd.f13) Tryd.func13 rfl (by kernel_rfl) (rs := [.tmp 2]) rfl (nt := 43) rfl (l := fin) (k := (aE 3 (.adj [.keep [0, 5, 6, 7]] (.alt (.sub (Unit) (fun _ => (.exit 0)) (fun t21 => ⟨[.any, .any, .any, .any, .any, .any, .any, .any, .any, .any, .any, .any, .any, .any, .any, .any, .any, .any, .any, .any, .any, .any, .any, .any, .any, .any, .any, .any, .any, .any, .any, .any, .any, .any, .any, .any, .any, .any, .any, .any, .any, .any, .any], [], 0⟩) (fun t21 => (aE 3 .nil))) (.sub (Unit) (fun _ => .ret) (fun t22 => ⟨[.any, .any, .v (.one (.err (some (22 : Int)))), .any, .any, .any, .any, .any, .any, .any, .any, .any, .any, .any, .any, .any, .any, .any, .any, .any, .any, .any, .any, .any, .any, .any, .any, .any, .any, .any, .any, .any, .any, .any, .any, .any, .any, .any, .any, .any, .any, .any, .any], [], 0⟩) (fun t22 => (.adj [] .nil))))))) (to_goal (q := (True ∧ (True ∧ (True) ∧ (True ∧ (((True) ∧ True) ∧ ((∃ t21 : Unit, Trip cfg (.loop (cpath (Tryd.f13.body.getD .skip) [1, 0, 1, 0, 0])) ⟨[.v (.one (.fs (.pair (.int .i64) (.int .i64)) a0 false)), .any, .any, .any, .any, .v (.one (.fs (.pair (.int .i64) (.int .i64)) a0 false)), .v (.one (.sc (.int .i64 (((List.length a0) : Nat) : Int)))), .v (.one (.sc (.int .i64 (0 : Int)))), .any, .any, .any, .any, .any, .any, .any, .any, .any, .any, .any, .any, .any, .any, .any, .any, .any, .any, .any, .any, .any, .any, .any, .any, .any, .any, .any, .any, .any, .any, .any, .any, .any, .any, .any], [], 0⟩ (fun e s => e = (.exit 0) ∧ s = ⟨[.any, .any, .any, .any, .any, .any, .any, .any, .any, .any, .any, .any, .any, .any, .any, .any, .any, .any, .any, .any, .any, .any, .any, .any, .any, .any, .any, .any, .any, .any, .any, .any, .any, .any, .any, .any, .any, .any, .any, .any, .any, .any, .any], [], 0⟩) ∧ (True ∧ (True ∧ ((True) ∧ (True) ∧ (.v (.one (.err none)) : Tm) = alarm_Check.R r ∧ ([] : List Box) = [])))) ∨ (∃ t22 : Unit, Trip cfg (.loop (cpath (Tryd.f13.body.getD .skip) [1, 0, 1, 0, 0])) ⟨[.v (.one (.fs (.pair (.int .i64) (.int .i64)) a0 false)), .any, .any, .any, .any, .v (.one (.fs (.pair (.int .i64) (.int .i64)) a0 false)), .v (.one (.sc (.int .i64 (((List.length a0) : Nat) : Int)))), .v (.one (.sc (.int .i64 (0 : Int)))), .any, .any, .any, .any, .any, .any, .any, .any, .any, .any, .any, .any, .any, .any, .any, .any, .any, .any, .any, .any, .any, .any, .any, .any, .any, .any, .any, .any, .any, .any, .any, .any, .any, .any, .any], [], 0⟩ (fun e s => e = .ret ∧ s = ⟨[.any, .any, .v (.one (.err (some (22 : Int)))), .any, .any, .any, .any, .any, .any, .any, .any, .any, .any, .any, .any, .any, .any, .any, .any, .any, .any, .any, .any, .any, .any, .any, .any, .any, .any, .any, .any, .any, .any, .any, .any, .any, .any, .any, .any, .any, .any, .any, .any], [], 0⟩) ∧ ((True) ∧ (True) ∧ (.v (.one (.err (some (22 : Int)))) : Tm) = alarm_Check.R r ∧ ([] : List Box) = [])))))))) (by kernel_rfl) ?_)
  refine ⟨trivial, trivial, trivial, trivial, ?_⟩
  obtain ⟨t11, ht11, h⟩ := of_bind h
  refine ⟨⟨trivial, trivial⟩, ?_⟩
  rcases t11 with t21 | t22
  · dsimp only at h
    left
    refine ⟨t21, Trip.loop FUEL (alarm_Check.l0_ok a0 FUEL (0 : Int) (.inl t21) ht11), ?_⟩
    refine ⟨trivial, trivial, ?_⟩
    obtain rfl := Option.some.inj h
    exact ⟨trivial, trivial, rfl, rfl⟩
  · dsimp only at h
    right
    refine ⟨t22, Trip.loop FUEL (alarm_Check.l0_ok a0 FUEL (0 : Int) (.inr t22) ht11), ?_⟩
    obtain rfl := Option.some.inj h
    exact ⟨trivial, trivial, rfl, rfl⟩
/-! halter/alarm.timed -/
def alarm_timed.f (a0 : Int) : Option Bool :=
  if a0 ≥ (0 : Int) then
    some (decide (a0 ≤ (549755813888 : Int)))
  else
    some false
def alarm_timed.R (r : Bool) : Tm := .v (.one (.sc (.bool r)))
theorem alarm_timed.fun_ {a0 : Int} {r : Bool} (h : alarm_timed.f a0 = some r) : Fun cfg 15 [.one (.sc (.int .i64 a0))] [] (alarm_timed.R r) [] := by
  unfold alarm_timed.f at h
  refine fun_of_run cfg_ok (f := 15) (fn := Tryd.f15) Tryd.func15 rfl (by kernel_rfl) (rs := [.tmp 2]) rfl (nt := 9) rfl (l := fin) (k := (.br (oT 2 (aE 2 .nil)) (oF 2 (aE 2 .nil)))) (to_goal (q := (True) ∧ (((decide (a0 ≥ (0 : Int))) = true → ((decide (a0 ≥ (0 : Int))) = true ∧ (True) ∧ ((decide (a0 ≥ (0 : Int))) = true ∧ (True ∧ ((True) ∧ (True) ∧ (.v (.one (.sc (.bool (decide (a0 ≤ (549755813888 : Int)))))) : Tm) = alarm_timed.R r ∧ ([] : List Box) = []))))) ∧ ((decide (a0 ≥ (0 : Int))) = false → ((decide (a0 ≥ (0 : Int))) = false ∧ ((decide (a0 ≥ (0 : Int))) = false ∧ (True ∧ ((True) ∧ (True) ∧ (.v (.one (.sc (.bool false))) : Tm) = alarm_timed.R r ∧ ([] : List Box) = []))))))) (by kernel_rfl) ?_)
  refine ⟨trivial, ?_⟩
  refine ⟨fun b1 => ?_, fun b1 => ?_⟩
  · rw [if_pos (of_decide_eq_true b1)] at h
    refine ⟨b1, ?_⟩
    refine ⟨trivial, ?_⟩
    refine ⟨b1, ?_⟩
    refine ⟨trivial, ?_⟩
    obtain rfl := Option.some.inj h
    exact ⟨trivial, trivial, rfl, rfl⟩
  · rw [if_neg (of_decide_eq_false b1)] at h
    refine ⟨b1, ?_⟩
    refine ⟨b1, ?_⟩
    refine ⟨trivial, ?_⟩
    obtain rfl := Option.some.inj h
    exact ⟨trivial, trivial, rfl, rfl⟩
/-! slices.Clone[[]halter/alarm.Alarm,halter/alarm.Alarm] -/
def slices_Clone_alarm_Alarm_alarm_Alarm.f (a0 : (List (Int × Int))) : Option (List (Int × Int)) :=
  if (List.length a0) = 0 then same (
    some ([] : List (Int × Int))
    ) (
    if True ∧ 0 = 0 ∧ 0 = 0 ∧ ((0 + (List.length a0)) * 16 ≤ 140737488355328 ∧ 0 + (List.length a0) ≤ 9223372036854775807) then
      some (([] : List (Int × Int)) ++ a0)
    else none
    )
  else
    if True ∧ 0 = 0 ∧ 0 = 0 ∧ ((0 + (List.length a0)) * 16 ≤ 140737488355328 ∧ 0 + (List.length a0) ≤ 9223372036854775807) then
      some (([] : List (Int × Int)) ++ a0)
    else none
def slices_Clone_alarm_Alarm_alarm_Alarm.R (r : (List (Int × Int))) : Tm := .v (.one (.os 0 0 0 2 (List.length r) none))
def slices_Clone_alarm_Alarm_alarm_Alarm.B (a0 : (List (Int × Int))) (r : (List (Int × Int))) : List Box := [.gro false (.pair (.int .i64) (.int .i64)) r 45]
theorem slices_Clone_alarm_Alarm_alarm_Alarm.fun_ {a0 : (List (Int × Int))} {r : (List (Int × Int))} (h : slices_Clone_alarm_Alarm_alarm_Alarm.f a0 = some r) : Fun cfg 18 [.one (.fs (.pair (.int .i64) (.int .i64)) a0 false)] [] (slices_Clone_alarm_Alarm_alarm_Alarm.R r) (slices_Clone_alarm_Alarm_alarm_Alarm.B a0 r) := by
  unfold slices_Clone_alarm_Alarm_alarm_Alarm.f at h
  refine fun_of_run cfg_ok (f := 18) (fn := Tryd.f18) Tryd.func18 rfl (by kernel_rfl) (rs := [.tmp 2]) rfl (nt := 8) rfl (l := fin) (k := (.nq (.one true (aE 2 (.adj [.nilGro 0 (.pair (.int .i64) (.int .i64)) 45] .nil))) (.one false (.d .no (.d (.b false) (aE 2 .nil)))))) (to_goal (q := (((List.length a0) = 0 → (true = true ∧ (True ∧ (True ∧ ((True) ∧ ((True) ∧ True) ∧ (.v (.one (.os 0 0 0 2 0 none)) : Tm) = slices_Clone_alarm_Alarm_alarm_Alarm.R r ∧ ([.gro false (.pair (.int .i64) (.int .i64)) ([] : List (Int × Int)) 45] : List Box) = slices_Clone_alarm_Alarm_alarm_Alarm.B a0 r))))) ∧ (false = false ∧ (True ∧ 0 = 0 ∧ 0 = 0 ∧ ((0 + (List.length a0)) * 16 ≤ 140737488355328 ∧ 0 + (List.length a0) ≤ 9223372036854775807)) ∧ (True ∧ ((True) ∧ (True) ∧ (.v (.one (.os 0 0 0 2 (List.length (([] : List (Int × Int)) ++ a0)) none)) : Tm) = slices_Clone_alarm_Alarm_alarm_Alarm.R r ∧ ([.gro false (.pair (.int .i64) (.int .i64)) (([] : List (Int × Int)) ++ a0) 45] : List Box) = slices_Clone_alarm_Alarm_alarm_Alarm.B a0 r))))) (by kernel_rfl) ?_)
  refine ⟨fun g1 => ?_, ?_⟩
  · replace h := same_a g1 h
    refine ⟨rfl, trivial, trivial, ?_⟩
    obtain rfl := Option.some.inj h
    exact ⟨trivial, ⟨trivial, trivial⟩, rfl, rfl⟩
  · replace h := same_b h
    refine ⟨rfl, ?_⟩
    obtain ⟨g2, h⟩ := of_guard h
    refine ⟨g2, ?_⟩
    refine ⟨trivial, ?_⟩
    obtain rfl := Option.some.inj h
    exact ⟨trivial, trivial, rfl, rfl⟩
/-! halter/alarm.Set$1 -/
def alarm_Set_1.f (a0 : Int) (a1 : Int) (a2 : Int) (a3 : Int) (a4 : Int) : Option (Bool × Int) :=
  if a0 = a2 then
    some ((a0 == a2), (if (IntKind.wrap .i64 (a1 - a3)) > (0 : Int) then (IntKind.wrap .i64 (a1 - a3)) else (0 : Int)))
  else
    some ((a0 == a2), a4)
def alarm_Set_1.R (r : Bool × Int) : Tm := .v (.one (.sc (.bool r.1)))
def alarm_Set_1.B (a0 : Int) (a1 : Int) (a2 : Int) (a3 : Int) (a4 : Int) (r : Bool × Int) : List Box := [.ex false [.c (.sc (.int .i64 a2))] 3, .ex false [.c (.sc (.int .i64 a3))] 3, .ex false [.c (.sc (.int .i64 r.2))] 3]
theorem alarm_Set_1.fun_ {a0 : Int} {a1 : Int} {a2 : Int} {a3 : Int} {a4 : Int} {r : Bool × Int} (h : alarm_Set_1.f a0 a1 a2 a3 a4 = some r) : Fun cfg 19 [.agg [.c (.sc (.int .i64 a0)), .c (.sc (.int .i64 a1))], .one (.ptr 0 ⟨0, 0, 0, 0⟩), .one (.ptr 1 ⟨0, 0, 0, 0⟩), .one (.ptr 2 ⟨0, 0, 0, 0⟩)] [.ex false [.c (.sc (.int .i64 a2))] 3, .ex false [.c (.sc (.int .i64 a3))] 3, .ex false [.c (.sc (.int .i64 a4))] 3] (alarm_Set_1.R r) (alarm_Set_1.B a0 a1 a2 a3 a4 r) := by
  unfold alarm_Set_1.f at h
  refine fun_of_run cfg_ok (f := 19) (fn := Tryd.f19) Tryd.func19 rfl (by kernel_rfl) (rs := [.tmp 5]) rfl (nt := 19) rfl (l := fin) (k := (.br (aE 3 (.adj [.drop 3] .nil)) (aE 3 (.adj [.drop 3] .nil)))) (to_goal (q := (True) ∧ (True) ∧ (True) ∧ (((a0 == a2) = true → (True ∧ (True) ∧ (True) ∧ (True) ∧ (True) ∧ (True) ∧ (True ∧ (True) ∧ (True) ∧ (True) ∧ (True ∧ ((True) ∧ ((True) ∧ True) ∧ (.v (.one (.sc (.bool (a0 == a2)))) : Tm) = alarm_Set_1.R r ∧ ([.ex false [.c (.sc (.int .i64 a2))] 3, .ex false [.c (.sc (.int .i64 a3))] 3, .ex false [.c (.sc (.int .i64 (if (IntKind.wrap .i64 (a1 - a3)) > (0 : Int) then (IntKind.wrap .i64 (a1 - a3)) else (0 : Int))))] 3] : List Box) = alarm_Set_1.B a0 a1 a2 a3 a4 r))))) ∧ ((a0 == a2) = false → (True ∧ (True ∧ (True) ∧ (True) ∧ (True) ∧ (True ∧ ((True) ∧ ((True) ∧ True) ∧ (.v (.one (.sc (.bool (a0 == a2)))) : Tm) = alarm_Set_1.R r ∧ ([.ex false [.c (.sc (.int .i64 a2))] 3, .ex false [.c (.sc (.int .i64 a3))] 3, .ex false [.c (.sc (.int .i64 a4))] 3] : List Box) = alarm_Set_1.B a0 a1 a2 a3 a4 r))))))) (by kernel_rfl) ?_)
  refine ⟨trivial, trivial, trivial, ?_⟩
  refine ⟨fun b1 => ?_, fun b1 => ?_⟩
  · rw [if_pos (beq_t b1)] at h
    refine ⟨trivial, trivial, trivial, trivial, trivial, trivial, trivial, trivial, trivial, trivial, trivial, ?_⟩
    obtain rfl := Option.some.inj h
    exact ⟨trivial, ⟨trivial, trivial⟩, rfl, rfl⟩
  · rw [if_neg (beq_f b1)] at h
    refine ⟨trivial, trivial, trivial, trivial, trivial, trivial, ?_⟩
    obtain rfl := Option.some.inj h
    exact ⟨trivial, ⟨trivial, trivial⟩, rfl, rfl⟩
/-! slices.IndexFunc[[]halter/alarm.Alarm,halter/alarm.Alarm] -/
def slices_IndexFunc_alarm_Alarm_alarm_Alarm.l0 (a0 : (List (Int × Int))) (a1 : Int) (a2 : Int) : Nat → Int → Int → Option ((Int) ⊕ (Int × Int))
  | 0, _, _ => none
  | n + 1, x6, x7 =>
    if x7 < (((List.length a0) : Nat) : Int) then
      if 0 ≤ x7 ∧ x7 < (((List.length a0) : Nat) : Int) then
        (alarm_Set_1.f (List.getD a0 (Int.toNat x7) ((0 : Int), (0 : Int))).1 (List.getD a0 (Int.toNat x7) ((0 : Int), (0 : Int))).2 a1 a2 x6).bind fun t17 =>
        if t17.1 = true then
          some (.inr (t17.2, x7))
        else
          slices_IndexFunc_alarm_Alarm_alarm_Alarm.l0 a0 a1 a2 n t17.2 (IntKind.wrap .i64 (x7 + (1 : Int)))
      else none
    else
      some (.inl x6)
def slices_IndexFunc_alarm_Alarm_alarm_Alarm.l0_S (a0 : (List (Int × Int))) (a1 : Int) (a2 : Int) (x6 : Int) (x7 : Int) : St := ⟨[.v (.one (.fs (.pair (.int .i64) (.int .i64)) a0 false)), .v (.clo 19 [(false, 1), (false, 1), (false, 1)] [.c (.ptr 0 ⟨0, 0, 0, 0⟩), .c (.ptr 1 ⟨0, 0, 0, 0⟩), .c (.ptr 2 ⟨0, 0, 0, 0⟩)]), .any, .any, .any, .any, .any, .v (.one (.sc (.int .i64 (((List.length a0) : Nat) : Int)))), .v (.one (.sc (.int .i64 x7))), .any, .any, .any, .any, .any, .any, .any, .any, .any, .any], [.ex false [.c (.sc (.int .i64 a1))] 3, .ex false [.c (.sc (.int .i64 a2))] 3, .ex false [.c (.sc (.int .i64 x6))] 3], 3⟩
def slices_IndexFunc_alarm_Alarm_alarm_Alarm.l0_Q (a0 : (List (Int × Int))) (a1 : Int) (a2 : Int) : (Int) ⊕ (Int × Int) → Exit → St → Prop
  | .inl t => fun e s => e = (.exit 0) ∧ s = ⟨[.any, .any, .any, .any, .any, .any, .any, .any, .any, .any, .any, .any, .any, .any, .any, .any, .any, .any, .any], [.ex false [.c (.sc (.int .i64 a1))] 3, .ex false [.c (.sc (.int .i64 a2))] 3, .ex false [.c (.sc (.int .i64 t))] 3], 3⟩
  | .inr t => fun e s => e = .ret ∧ s = ⟨[.any, .any, .any, .any, .v (.one (.sc (.int .i64 t.2))), .any, .any, .any, .any, .any, .any, .any, .any, .any, .any, .any, .any, .any, .any], [.ex false [.c (.sc (.int .i64 a1))] 3, .ex false [.c (.sc (.int .i64 a2))] 3, .ex false [.c (.sc (.int .i64 t.1))] 3], 3⟩
theorem slices_IndexFunc_alarm_Alarm_alarm_Alarm.l0_ok (a0 : (List (Int × Int))) (a1 : Int) (a2 : Int) : ∀ (n : Nat) (x6 : Int) (x7 : Int) (r : (Int) ⊕ (Int × Int)), slices_IndexFunc_alarm_Alarm_alarm_Alarm.l0 a0 a1 a2 n x6 x7 = some r → TripN cfg (cpath (Tryd.f26.body.getD .skip) [1, 0, 1, 0, 0]) n (slices_IndexFunc_alarm_Alarm_alarm_Alarm.l0_S a0 a1 a2 x6 x7) (slices_IndexFunc_alarm_Alarm_alarm_Alarm.l0_Q a0 a1 a2 r) := by
  intro n
  induction n with
  | zero => intro x6 x7 r h; cases h
  | succ n ih =>
    intro x6 x7 r h
    rw [slices_IndexFunc_alarm_Alarm_alarm_Alarm.l0] at h
    refine TripN.of_run cfg_ok (k := (.br (.callR true [] [0, 1, 2] (Bool × Int) (fun t17 => (alarm_Set_1.R t17)) (fun t17 => (alarm_Set_1.B (List.getD a0 (Int.toNat x7) ((0 : Int), (0 : Int))).1 (List.getD a0 (Int.toNat x7) ((0 : Int), (0 : Int))).2 a1 a2 x6 t17)) (fun t17 => (.br (.adj [] (.adj [.keep [4], .drop 3] .nil)) (aE 2 (.adj [.keep [0, 1, 7, 8], .drop 3] .nil))))) (.adj [.keep [], .drop 3] .nil))) (to_goal (q := (True) ∧ (((decide (x7 < (((List.length a0) : Nat) : Int))) = true → (0 ≤ x7 ∧ x7 < (((List.length a0) : Nat) : Int)) ∧ (True) ∧ (∃ t17 : Bool × Int, (Fun cfg 19 [.agg [.c (.sc (.int .i64 (List.getD a0 (Int.toNat x7) ((0 : Int), (0 : Int))).1)), .c (.sc (.int .i64 (List.getD a0 (Int.toNat x7) ((0 : Int), (0 : Int))).2))], .one (.ptr 0 ⟨0, 0, 0, 0⟩), .one (.ptr 1 ⟨0, 0, 0, 0⟩), .one (.ptr 2 ⟨0, 0, 0, 0⟩)] [.ex false [.c (.sc (.int .i64 a1))] 3, .ex false [.c (.sc (.int .i64 a2))] 3, .ex false [.c (.sc (.int .i64 x6))] 3] (alarm_Set_1.R t17) (alarm_Set_1.B (List.getD a0 (Int.toNat x7) ((0 : Int), (0 : Int))).1 (List.getD a0 (Int.toNat x7) ((0 : Int), (0 : Int))).2 a1 a2 x6 t17) ∧ True) ∧ ((t17.1 = true → (True ∧ (((True) ∧ (True) ∧ True) ∧ slices_IndexFunc_alarm_Alarm_alarm_Alarm.l0_Q a0 a1 a2 r .ret ⟨[.any, .any, .any, .any, .v (.one (.sc (.int .i64 x7))), .any, .any, .any, .any, .any, .any, .any, .any, .any, .any, .any, .any, .any, .any], [.ex false [.c (.sc (.int .i64 a1))] 3, .ex false [.c (.sc (.int .i64 a2))] 3, .ex false [.c (.sc (.int .i64 t17.2))] 3], 3⟩))) ∧ (t17.1 = false → (True ∧ (True ∧ (True) ∧ (((True) ∧ (True) ∧ True) ∧ TripN cfg (cpath (Tryd.f26.body.getD .skip) [1, 0, 1, 0, 0]) n (slices_IndexFunc_alarm_Alarm_alarm_Alarm.l0_S a0 a1 a2 t17.2 (IntKind.wrap .i64 (x7 + (1 : Int)))) (slices_IndexFunc_alarm_Alarm_alarm_Alarm.l0_Q a0 a1 a2 r)))))))) ∧ ((decide (x7 < (((List.length a0) : Nat) : Int))) = false → (((True) ∧ (True) ∧ True) ∧ slices_IndexFunc_alarm_Alarm_alarm_Alarm.l0_Q a0 a1 a2 r (.exit 0) ⟨[.any, .any, .any, .any, .any, .any, .any, .any, .any, .any, .any, .any, .any, .any, .any, .any, .any, .any, .any], [.ex false [.c (.sc (.int .i64 a1))] 3, .ex false [.c (.sc (.int .i64 a2))] 3, .ex false [.c (.sc (.int .i64 x6))] 3], 3⟩)))) (by kernel_rfl) ?_)
    refine ⟨trivial, ?_⟩
    refine ⟨fun b16 => ?_, fun b16 => ?_⟩
    · rw [if_pos (of_decide_eq_true b16)] at h
      obtain ⟨g19, h⟩ := of_guard h
      refine ⟨g19, ?_⟩
      refine ⟨trivial, ?_⟩
      obtain ⟨t17, ht17, h⟩ := of_bind h
      refine ⟨t17, ⟨alarm_Set_1.fun_ ht17, trivial⟩, ?_⟩
      refine ⟨fun b18 => ?_, fun b18 => ?_⟩
      · rw [if_pos b18] at h
        refine ⟨trivial, ?_⟩
        obtain rfl := Option.some.inj h
        exact ⟨⟨trivial, trivial, trivial⟩, rfl, rfl⟩
      · rw [if_neg (ff b18)] at h
        refine ⟨trivial, trivial, trivial, ?_⟩
        exact ⟨⟨trivial, trivial, trivial⟩, ih t17.2 (IntKind.wrap .i64 (x7 + (1 : Int))) r h⟩
    · rw [if_neg (of_decide_eq_false b16)] at h
      obtain rfl := Option.some.inj h
      exact ⟨⟨trivial, trivial, trivial⟩, rfl, rfl⟩
def slices_IndexFunc_alarm_Alarm_alarm_Alarm.f (a0 : (List (Int × Int))) (a1 : Int) (a2 : Int) (a3 : Int) : Option (Int × Int) :=
  (slices_IndexFunc_alarm_Alarm_alarm_Alarm.l0 a0 a1 a2 FUEL a3 (0 : Int)).bind fun t15 =>
  match t15 with
  | .inl t23 =>
    some ((-1 : Int), t23)
  | .inr t25 =>
    some (t25.2, t25.1)
def slices_IndexFunc_alarm_Alarm_alarm_Alarm.R (r : Int × Int) : Tm := .v (.one (.sc (.int .i64 r.1)))
def slices_IndexFunc_alarm_Alarm_alarm_Alarm.B (a0 : (List (Int × Int))) (a1 : Int) (a2 : Int) (a3 : Int) (r : Int × Int) : List Box := [.ex false [.c (.sc (.int .i64 a1))] 3, .ex false [.c (.sc (.int .i64 a2))] 3, .ex false [.c (.sc (.int .i64 r.2))] 3]
theorem slices_IndexFunc_alarm_Alarm_alarm_Alarm.fun_ {a0 : (List (Int × Int))} {a1 : Int} {a2 : Int} {a3 : Int} {r : Int × Int} (h : slices_IndexFunc_alarm_Alarm_alarm_Alarm.f a0 a1 a2 a3 = some r) : Fun cfg 26 [.one (.fs (.pair (.int .i64) (.int .i64)) a0 false), .clo 19 [(false, 1), (false, 1), (false, 1)] [.c (.ptr 0 ⟨0, 0, 0, 0⟩), .c (.ptr 1 ⟨0, 0, 0, 0⟩), .c (.ptr 2 ⟨0, 0, 0, 0⟩)]] [.ex false [.c (.sc (.int .i64 a1))] 3, .ex false [.c (.sc (.int .i64 a2))] 3, .ex false [.c (.sc (.int .i64 a3))] 3] (slices_IndexFunc_alarm_Alarm_alarm_Alarm.R r) (slices_IndexFunc_alarm_Alarm_alarm_Alarm.B a0 a1 a2 a3 r) := by
  unfold slices_IndexFunc_alarm_Alarm_alarm_Alarm.f at h
  refine fun_of_run cfg_ok (f := 26) (fn := Tryd.f26) Tryd.func26 rfl (by kernel_rfl) (rs := [.tmp 4]) rfl (nt := 19) rfl (l := fin) (k := (aE 3 (.adj [.keep [0, 1, 7, 8]] (.alt (.sub (Int) (fun _ => (.exit 0)) (fun t23 => ⟨[.any, .any, .any, .any, .any, .any, .any, .any, .any, .any, .any, .any, .any, .any, .any, .any, .any, .any, .any], [.ex false [.c (.sc (.int .i64 a1))] 3, .ex false [.c (.sc (.int .i64 a2))] 3, .ex false [.c (.sc (.int .i64 t23))] 3], 3⟩) (fun t23 => (aE 3 .nil))) (.sub (Int × Int) (fun _ => .ret) (fun t25 => ⟨[.any, .any, .any, .any, .v (.one (.sc (.int .i64 t25.2))), .any, .any, .any, .any, .any, .any, .any, .any, .any, .any, .any, .any, .any, .any], [.ex false [.c (.sc (.int .i64 a1))] 3, .ex false [.c (.sc (.int .i64 a2))] 3, .ex false [.c (.sc (.int .i64 t25.1))] 3], 3⟩) (fun t25 => (.adj [] .nil))))))) (to_goal (q := (True ∧ (True ∧ (True) ∧ (True ∧ (((True) ∧ True) ∧ ((∃ t23 : Int, Trip cfg (.loop (cpath (Tryd.f26.body.getD .skip) [1, 0, 1, 0, 0])) ⟨[.v (.one (.fs (.pair (.int .i64) (.int .i64)) a0 false)), .v (.clo 19 [(false, 1), (false, 1), (false, 1)] [.c (.ptr 0 ⟨0, 0, 0, 0⟩), .c (.ptr 1 ⟨0, 0, 0, 0⟩), .c (.ptr 2 ⟨0, 0, 0, 0⟩)]), .any, .any, .any, .any, .any, .v (.one (.sc (.int .i64 (((List.length a0) : Nat) : Int)))), .v (.one (.sc (.int .i64 (0 : Int)))), .any, .any, .any, .any, .any, .any, .any, .any, .any, .any], [.ex false [.c (.sc (.int .i64 a1))] 3, .ex false [.c (.sc (.int .i64 a2))] 3, .ex false [.c (.sc (.int .i64 a3))] 3], 3⟩ (fun e s => e = (.exit 0) ∧ s = ⟨[.any, .any, .any, .any, .any, .any, .any, .any, .any, .any, .any, .any, .any, .any, .any, .any, .any, .any, .any], [.ex false [.c (.sc (.int .i64 a1))] 3, .ex false [.c (.sc (.int .i64 a2))] 3, .ex false [.c (.sc (.int .i64 t23))] 3], 3⟩) ∧ (True ∧ (True ∧ ((True) ∧ (True) ∧ (.v (.one (.sc (.int .i64 (-1 : Int)))) : Tm) = slices_IndexFunc_alarm_Alarm_alarm_Alarm.R r ∧ ([.ex false [.c (.sc (.int .i64 a1))] 3, .ex false [.c (.sc (.int .i64 a2))] 3, .ex false [.c (.sc (.int .i64 t23))] 3] : List Box) = slices_IndexFunc_alarm_Alarm_alarm_Alarm.B a0 a1 a2 a3 r)))) ∨ (∃ t25 : Int × Int, Trip cfg (.loop (cpath (Tryd.f26.body.getD .skip) [1, 0, 1, 0, 0])) ⟨[.v (.one (.fs (.pair (.int .i64) (.int .i64)) a0 false)), .v (.clo 19 [(false, 1), (false, 1), (false, 1)] [.c (.ptr 0 ⟨0, 0, 0, 0⟩), .c (.ptr 1 ⟨0, 0, 0, 0⟩), .c (.ptr 2 ⟨0, 0, 0, 0⟩)]), .any, .any, .any, .any, .any, .v (.one (.sc (.int .i64 (((List.length a0) : Nat) : Int)))), .v (.one (.sc (.int .i64 (0 : Int)))), .any, .any, .any, .any, .any, .any, .any, .any, .any, .any], [.ex false [.c (.sc (.int .i64 a1))] 3, .ex false [.c (.sc (.int .i64 a2))] 3, .ex false [.c (.sc (.int .i64 a3))] 3], 3⟩ (fun e s => e = .ret ∧ s = ⟨[.any, .any, .any, .any, .v (.one (.sc (.int .i64 t25.2))), .any, .any, .any, .any, .any, .any, .any, .any, .any, .any, .any, .any, .any, .any], [.ex false [.c (.sc (.int .i64 a1))] 3, .ex false [.c (.sc (.int .i64 a2))] 3, .ex false [.c (.sc (.int .i64 t25.1))] 3], 3⟩) ∧ ((True) ∧ (True) ∧ (.v (.one (.sc (.int .i64 t25.2))) : Tm) = slices_IndexFunc_alarm_Alarm_alarm_Alarm.R r ∧ ([.ex false [.c (.sc (.int .i64 a1))] 3, .ex false [.c (.sc (.int .i64 a2))] 3, .ex false [.c (.sc (.int .i64 t25.1))] 3] : List Box) = slices_IndexFunc_alarm_Alarm_alarm_Alarm.B a0 a1 a2 a3 r)))))))) (by kernel_rfl) ?_)
  refine ⟨trivial, trivial, trivial, trivial, ?_⟩
  obtain ⟨t15, ht15, h⟩ := of_bind h
  refine ⟨⟨trivial, trivial⟩, ?_⟩
  rcases t15 with t23 | t25
  · dsimp only at h
    left
    refine ⟨t23, Trip.loop FUEL (slices_IndexFunc_alarm_Alarm_alarm_Alarm.l0_ok a0 a1 a2 FUEL a3 (0 : Int) (.inl t23) ht15), ?_⟩
    refine ⟨trivial, trivial, ?_⟩
    obtain rfl := Option.some.inj h
    exact ⟨trivial, trivial, rfl, rfl⟩
  · dsimp only at h
    right
    refine ⟨t25, Trip.loop FUEL (slices_IndexFunc_alarm_Alarm_alarm_Alarm.l0_ok a0 a1 a2 FUEL a3 (0 : Int) (.inr t25) ht15), ?_⟩
    obtain rfl := Option.some.inj h
    exact ⟨trivial, trivial, rfl, rfl⟩
/-! slices.DeleteFunc[[]halter/alarm.Alarm,halter/alarm.Alarm] -/
def slices_DeleteFunc_alarm_Alarm_alarm_Alarm.l0 (a0 : (List (Int × Int))) (a1 : Int) (a2 : Int) : Nat → (List (Int × Int)) → Int → Int → Int → Option ((List (Int × Int)) × Int × Int)
  | 0, _, _, _, _ => none
  | n + 1, x12, x13, x14, x15 =>
    if x15 < (((List.length a0) : Nat) : Int) then
      if 0 ≤ x15 ∧ x15 < (((List.length a0) : Nat) : Int) then
        if (0 + (Int.toNat x15)) < (List.length x12) then
          (alarm_Set_1.f (List.getD x12 (0 + (Int.toNat x15)) ((0 : Int), (0 : Int))).1 (List.getD x12 (0 + (Int.toNat x15)) ((0 : Int), (0 : Int))).2 a1 a2 x13).bind fun t28 =>
          if ¬ (t28.1 = true) then
            if 0 ≤ x14 ∧ x14 < (((List.length a0) : Nat) : Int) then
              if (0 + (Int.toNat x14)) < (List.length x12) then
                slices_DeleteFunc_alarm_Alarm_alarm_Alarm.l0 a0 a1 a2 n (List.set x12 (0 + (Int.toNat x14)) ((List.getD x12 (0 + (Int.toNat x15)) ((0 : Int), (0 : Int))).1, (List.getD x12 (0 + (Int.toNat x15)) ((0 : Int), (0 : Int))).2)) t28.2 (IntKind.wrap .i64 (x14 + (1 : Int))) (IntKind.wrap .i64 (x15 + (1 : Int)))
              else none
            else none
          else
            slices_DeleteFunc_alarm_Alarm_alarm_Alarm.l0 a0 a1 a2 n x12 t28.2 x14 (IntKind.wrap .i64 (x15 + (1 : Int)))
        else none
      else none
    else
      some (x12, x13, x14)
def slices_DeleteFunc_alarm_Alarm_alarm_Alarm.l0_S (a0 : (List (Int × Int))) (a1 : Int) (a2 : Int) (x12 : List (Int × Int)) (x13 : Int) (x14 : Int) (x15 : Int) : St := ⟨[.v (.one (.os 0 0 0 2 (List.length a0) none)), .v (.clo 19 [(false, 1), (false, 1), (false, 1)] [.c (.ptr 1 ⟨0, 0, 0, 0⟩), .c (.ptr 2 ⟨0, 0, 0, 0⟩), .c (.ptr 3 ⟨0, 0, 0, 0⟩)]), .any, .any, .any, .v (.one (.sc (.int .i64 x14))), .v (.one (.sc (.int .i64 x15))), .any, .any, .any, .any, .any, .any, .any, .any, .any, .any, .any, .any, .any, .any, .any, .any, .any, .any, .any, .any, .any, .any, .any, .any, .any, .any, .any, .any, .any, .any, .any, .any, .any, .any, .any], [.gro false (.pair (.int .i64) (.int .i64)) x12 45, .ex false [.c (.sc (.int .i64 a1))] 3, .ex false [.c (.sc (.int .i64 a2))] 3, .ex false [.c (.sc (.int .i64 x13))] 3], 4⟩
def slices_DeleteFunc_alarm_Alarm_alarm_Alarm.l0_Q (a0 : (List (Int × Int))) (a1 : Int) (a2 : Int) (t : (List (Int × Int)) × Int × Int) : Exit → St → Prop := fun e s => e = (.exit 0) ∧ s = ⟨[.v (.one (.os 0 0 0 2 (List.length a0) none)), .any, .any, .any, .any, .v (.one (.sc (.int .i64 t.2.2))), .any, .any, .any, .any, .any, .any, .any, .any, .any, .any, .any, .any, .any, .any, .any, .any, .any, .any, .any, .any, .any, .any, .any, .any, .any, .any, .any, .any, .any, .any, .any, .any, .any, .any, .any, .any], [.gro false (.pair (.int .i64) (.int .i64)) t.1 45, .ex false [.c (.sc (.int .i64 a1))] 3, .ex false [.c (.sc (.int .i64 a2))] 3, .ex false [.c (.sc (.int .i64 t.2.1))] 3], 4⟩
theorem slices_DeleteFunc_alarm_Alarm_alarm_Alarm.l0_ok (a0 : (List (Int × Int))) (a1 : Int) (a2 : Int) : ∀ (n : Nat) (x12 : List (Int × Int)) (x13 : Int) (x14 : Int) (x15 : Int) (r : (List (Int × Int)) × Int × Int), slices_DeleteFunc_alarm_Alarm_alarm_Alarm.l0 a0 a1 a2 n x12 x13 x14 x15 = some r → TripN cfg (cpath (Tryd.f17.body.getD .skip) [1, 1, 1, 0, 1, 0, 0]) n (slices_DeleteFunc_alarm_Alarm_alarm_Alarm.l0_S a0 a1 a2 x12 x13 x14 x15) (slices_DeleteFunc_alarm_Alarm_alarm_Alarm.l0_Q a0 a1 a2 r) := by
  intro n
  induction n with
  | zero => intro x12 x13 x14 x15 r h; cases h
  | succ n ih =>
    intro x12 x13 x14 x15 r h
    rw [slices_DeleteFunc_alarm_Alarm_alarm_Alarm.l0] at h
    refine TripN.of_run cfg_ok (k := (.br (.callR true [] [1, 2, 3] (Bool × Int) (fun t28 => (alarm_Set_1.R t28)) (fun t28 => (alarm_Set_1.B (List.getD x12 (0 + (Int.toNat x15)) ((0 : Int), (0 : Int))).1 (List.getD x12 (0 + (Int.toNat x15)) ((0 : Int), (0 : Int))).2 a1 a2 x13 t28)) (fun t28 => (.br (aE 3 (.adj [.keep [0, 1, 5, 6], .drop 4] .nil)) (aE 2 (.adj [.keep [0, 1, 5, 6], .drop 4] .nil))))) (.adj [.keep [0, 5], .drop 4] .nil))) (to_goal (q := (True) ∧ (True) ∧ (((decide (x15 < (((List.length a0) : Nat) : Int))) = true → (0 ≤ x15 ∧ x15 < (((List.length a0) : Nat) : Int)) ∧ ((0 + (Int.toNat x15)) < (List.length x12)) ∧ (True) ∧ (True) ∧ (∃ t28 : Bool × Int, (Fun cfg 19 [.agg [.c (.sc (.int .i64 (List.getD x12 (0 + (Int.toNat x15)) ((0 : Int), (0 : Int))).1)), .c (.sc (.int .i64 (List.getD x12 (0 + (Int.toNat x15)) ((0 : Int), (0 : Int))).2))], .one (.ptr 0 ⟨0, 0, 0, 0⟩), .one (.ptr 1 ⟨0, 0, 0, 0⟩), .one (.ptr 2 ⟨0, 0, 0, 0⟩)] [.ex false [.c (.sc (.int .i64 a1))] 3, .ex false [.c (.sc (.int .i64 a2))] 3, .ex false [.c (.sc (.int .i64 x13))] 3] (alarm_Set_1.R t28) (alarm_Set_1.B (List.getD x12 (0 + (Int.toNat x15)) ((0 : Int), (0 : Int))).1 (List.getD x12 (0 + (Int.toNat x15)) ((0 : Int), (0 : Int))).2 a1 a2 x13 t28) ∧ True) ∧ (((!t28.1) = true → (True ∧ (True) ∧ (0 ≤ x14 ∧ x14 < (((List.length a0) : Nat) : Int)) ∧ ((0 + (Int.toNat x14)) < (List.length x12)) ∧ (True ∧ (True) ∧ (True ∧ (True) ∧ (((True) ∧ (True) ∧ True) ∧ TripN cfg (cpath (Tryd.f17.body.getD .skip) [1, 1, 1, 0, 1, 0, 0]) n (slices_DeleteFunc_alarm_Alarm_alarm_Alarm.l0_S a0 a1 a2 (List.set x12 (0 + (Int.toNat x14)) ((List.getD x12 (0 + (Int.toNat x15)) ((0 : Int), (0 : Int))).1, (List.getD x12 (0 + (Int.toNat x15)) ((0 : Int), (0 : Int))).2)) t28.2 (IntKind.wrap .i64 (x14 + (1 : Int))) (IntKind.wrap .i64 (x15 + (1 : Int)))) (slices_DeleteFunc_alarm_Alarm_alarm_Alarm.l0_Q a0 a1 a2 r)))))) ∧ ((!t28.1) = false → (True ∧ (True ∧ (True) ∧ (((True) ∧ (True) ∧ True) ∧ TripN cfg (cpath (Tryd.f17.body.getD .skip) [1, 1, 1, 0, 1, 0, 0]) n (slices_DeleteFunc_alarm_Alarm_alarm_Alarm.l0_S a0 a1 a2 x12 t28.2 x14 (IntKind.wrap .i64 (x15 + (1 : Int)))) (slices_DeleteFunc_alarm_Alarm_alarm_Alarm.l0_Q a0 a1 a2 r)))))))) ∧ ((decide (x15 < (((List.length a0) : Nat) : Int))) = false → (((True) ∧ (True) ∧ True) ∧ slices_DeleteFunc_alarm_Alarm_alarm_Alarm.l0_Q a0 a1 a2 r (.exit 0) ⟨[.v (.one (.os 0 0 0 2 (List.length a0) none)), .any, .any, .any, .any, .v (.one (.sc (.int .i64 x14))), .any, .any, .any, .any, .any, .any, .any, .any, .any, .any, .any, .any, .any, .any, .any, .any, .any, .any, .any, .any, .any, .any, .any, .any, .any, .any, .any, .any, .any, .any, .any, .any, .any, .any, .any, .any], [.gro false (.pair (.int .i64) (.int .i64)) x12 45, .ex false [.c (.sc (.int .i64 a1))] 3, .ex false [.c (.sc (.int .i64 a2))] 3, .ex false [.c (.sc (.int .i64 x13))] 3], 4⟩)))) (by kernel_rfl) ?_)
    refine ⟨trivial, trivial, ?_⟩
    refine ⟨fun b27 => ?_, fun b27 => ?_⟩
    · rw [if_pos (of_decide_eq_true b27)] at h
      obtain ⟨g33, h⟩ := of_guard h
      refine ⟨g33, ?_⟩
      obtain ⟨g32, h⟩ := of_guard h
      refine ⟨g32, ?_⟩
      refine ⟨trivial, trivial, ?_⟩
      obtain ⟨t28, ht28, h⟩ := of_bind h
      refine ⟨t28, ⟨alarm_Set_1.fun_ ht28, trivial⟩, ?_⟩
      refine ⟨fun b29 => ?_, fun b29 => ?_⟩
      · rw [if_pos (ff (not_t b29))] at h
        refine ⟨trivial, trivial, ?_⟩
        obtain ⟨g31, h⟩ := of_guard h
        refine ⟨g31, ?_⟩
        obtain ⟨g30, h⟩ := of_guard h
        refine ⟨g30, ?_⟩
        refine ⟨trivial, trivial, trivial, trivial, ?_⟩
        exact ⟨⟨trivial, trivial, trivial⟩, ih (List.set x12 (0 + (Int.toNat x14)) ((List.getD x12 (0 + (Int.toNat x15)) ((0 : Int), (0 : Int))).1, (List.getD x12 (0 + (Int.toNat x15)) ((0 : Int), (0 : Int))).2)) t28.2 (IntKind.wrap .i64 (x14 + (1 : Int))) (IntKind.wrap .i64 (x15 + (1 : Int))) r h⟩
      · rw [if_neg (not_not_intro (not_f b29))] at h
        refine ⟨trivial, trivial, trivial, ?_⟩
        exact ⟨⟨trivial, trivial, trivial⟩, ih x12 t28.2 x14 (IntKind.wrap .i64 (x15 + (1 : Int))) r h⟩
    · rw [if_neg (of_decide_eq_false b27)] at h
      obtain rfl := Option.some.inj h
      exact ⟨⟨trivial, trivial, trivial⟩, rfl, rfl⟩
def slices_DeleteFunc_alarm_Alarm_alarm_Alarm.f (a0 : (List (Int × Int))) (a1 : Int) (a2 : Int) (a3 : Int) : Option (((List (Int × Int)) × Int) ⊕ (Nat × (List (Int × Int)) × Int)) :=
  (slices_IndexFunc_alarm_Alarm_alarm_Alarm.f a0 a1 a2 a3).bind fun t1 =>
  if t1.1 = (-1 : Int) then
    some (.inl (a0, t1.2))
  else
    (slices_DeleteFunc_alarm_Alarm_alarm_Alarm.l0 a0 a1 a2 FUEL a0 t1.2 t1.1 (IntKind.wrap .i64 (t1.1 + (1 : Int)))).bind fun t26 =>
    if (True) ∧ ((0 ≤ t26.2.2 ∧ t26.2.2 ≤ (((List.length a0) : Nat) : Int))) then
      if 0 < ((List.length a0) - (Int.toNat t26.2.2)) ∧ (0 + (Int.toNat t26.2.2)) + ((List.length a0) - (Int.toNat t26.2.2)) ≤ (List.length t26.1) then
        if ((0 ≤ t26.2.2 ∧ t26.2.2 ≤ (((List.length a0) : Nat) : Int))) ∧ (True) then
          some (.inr ((Int.toNat t26.2.2), (List.take (0 + (Int.toNat t26.2.2)) t26.1 ++ ((List.take (Nat.min (List.length (List.replicate ((List.length a0) - (Int.toNat t26.2.2)) ((0 : Int), (0 : Int)))) ((List.length a0) - (Int.toNat t26.2.2))) (List.replicate ((List.length a0) - (Int.toNat t26.2.2)) ((0 : Int), (0 : Int)))) ++ (List.drop ((0 + (Int.toNat t26.2.2)) + Nat.min (List.length (List.replicate ((List.length a0) - (Int.toNat t26.2.2)) ((0 : Int), (0 : Int)))) ((List.length a0) - (Int.toNat t26.2.2))) t26.1))), t26.2.1))
        else none
      else none
    else none
def slices_DeleteFunc_alarm_Alarm_alarm_Alarm.R : ((List (Int × Int)) × Int) ⊕ (Nat × (List (Int × Int)) × Int) → Tm
  | .inl r => .v (.one (.os 0 0 0 2 (List.length r.1) none))
  | .inr r => .v (.one (.os 0 0 0 2 r.1 none))
def slices_DeleteFunc_alarm_Alarm_alarm_Alarm.B (a0 : (List (Int × Int))) (a1 : Int) (a2 : Int) (a3 : Int) : ((List (Int × Int)) × Int) ⊕ (Nat × (List (Int × Int)) × Int) → List Box
  | .inl r => [.gro false (.pair (.int .i64) (.int .i64)) r.1 45, .ex false [.c (.sc (.int .i64 a1))] 3, .ex false [.c (.sc (.int .i64 a2))] 3, .ex false [.c (.sc (.int .i64 r.2))] 3]
  | .inr r => [.gro false (.pair (.int .i64) (.int .i64)) r.2.1 45, .ex false [.c (.sc (.int .i64 a1))] 3, .ex false [.c (.sc (.int .i64 a2))] 3, .ex false [.c (.sc (.int .i64 r.2.2))] 3]
theorem slices_DeleteFunc_alarm_Alarm_alarm_Alarm.fun_ {a0 : (List (Int × Int))} {a1 : Int} {a2 : Int} {a3 : Int} {r : ((List (Int × Int)) × Int) ⊕ (Nat × (List (Int × Int)) × Int)} (h : slices_DeleteFunc_alarm_Alarm_alarm_Alarm.f a0 a1 a2 a3 = some r) : Fun cfg 17 [.one (.os 0 0 0 2 (List.length a0) none), .clo 19 [(false, 1), (false, 1), (false, 1)] [.c (.ptr 1 ⟨0, 0, 0, 0⟩), .c (.ptr 2 ⟨0, 0, 0, 0⟩), .c (.ptr 3 ⟨0, 0, 0, 0⟩)]] [.gro false (.pair (.int .i64) (.int .i64)) a0 45, .ex false [.c (.sc (.int .i64 a1))] 3, .ex false [.c (.sc (.int .i64 a2))] 3, .ex false [.c (.sc (.int .i64 a3))] 3] (slices_DeleteFunc_alarm_Alarm_alarm_Alarm.R r) (slices_DeleteFunc_alarm_Alarm_alarm_Alarm.B a0 a1 a2 a3 r) := by
  unfold slices_DeleteFunc_alarm_Alarm_alarm_Alarm.f at h
  refine fun_of_run cfg_ok (f := 17) (fn := Tryd.f17) Tryd.func17 rfl (by kernel_rfl) (rs := [.tmp 4]) rfl (nt := 42) rfl (l := fin) (k := (.callR true [] [1, 2, 3] (Int × Int) (fun t1 => (slices_IndexFunc_alarm_Alarm_alarm_Alarm.R t1)) (fun t1 => (slices_IndexFunc_alarm_Alarm_alarm_Alarm.B a0 a1 a2 a3 t1)) (fun t1 => (.br (aE 3 .nil) (aE 3 (.adj [.keep [0, 1, 5, 6]] (.sub ((List (Int × Int)) × Int × Int) (fun _ => (.exit 0)) (fun t26 => ⟨[.v (.one (.os 0 0 0 2 (List.length a0) none)), .any, .any, .any, .any, .v (.one (.sc (.int .i64 (z2 t26)))), .any, .any, .any, .any, .any, .any, .any, .any, .any, .any, .any, .any, .any, .any, .any, .any, .any, .any, .any, .any, .any, .any, .any, .any, .any, .any, .any, .any, .any, .any, .any, .any, .any, .any, .any, .any], [.gro false (.pair (.int .i64) (.int .i64)) t26.1 45, .ex false [.c (.sc (.int .i64 a1))] 3, .ex false [.c (.sc (.int .i64 a2))] 3, .ex false [.c (.sc (.int .i64 t26.2.1))] 3], 4⟩) (fun t26 => (aE 4 .nil))))))))) (to_goal (q := (∃ t1 : Int × Int, ((0 = 0 ∧ (List.length a0) = (List.length a0)) ∧ Fun cfg 26 [.one (.fs (.pair (.int .i64) (.int .i64)) a0 false), .clo 19 [(false, 1), (false, 1), (false, 1)] [.c (.ptr 0 ⟨0, 0, 0, 0⟩), .c (.ptr 1 ⟨0, 0, 0, 0⟩), .c (.ptr 2 ⟨0, 0, 0, 0⟩)]] [.ex false [.c (.sc (.int .i64 a1))] 3, .ex false [.c (.sc (.int .i64 a2))] 3, .ex false [.c (.sc (.int .i64 a3))] 3] (slices_IndexFunc_alarm_Alarm_alarm_Alarm.R t1) (slices_IndexFunc_alarm_Alarm_alarm_Alarm.B a0 a1 a2 a3 t1) ∧ True) ∧ (True) ∧ (((t1.1 == (-1 : Int)) = true → (True ∧ (True ∧ ((True) ∧ (True) ∧ (.v (.one (.os 0 0 0 2 (List.length a0) none)) : Tm) = slices_DeleteFunc_alarm_Alarm_alarm_Alarm.R r ∧ ([.gro false (.pair (.int .i64) (.int .i64)) a0 45, .ex false [.c (.sc (.int .i64 a1))] 3, .ex false [.c (.sc (.int .i64 a2))] 3, .ex false [.c (.sc (.int .i64 t1.2))] 3] : List Box) = slices_DeleteFunc_alarm_Alarm_alarm_Alarm.B a0 a1 a2 a3 r)))) ∧ ((t1.1 == (-1 : Int)) = false → (True ∧ (True ∧ (True) ∧ (True ∧ (((True) ∧ True) ∧ (∃ t26 : (List (Int × Int)) × Int × Int, Trip cfg (.loop (cpath (Tryd.f17.body.getD .skip) [1, 1, 1, 0, 1, 0, 0])) ⟨[.v (.one (.os 0 0 0 2 (List.length a0) none)), .v (.clo 19 [(false, 1), (false, 1), (false, 1)] [.c (.ptr 1 ⟨0, 0, 0, 0⟩), .c (.ptr 2 ⟨0, 0, 0, 0⟩), .c (.ptr 3 ⟨0, 0, 0, 0⟩)]), .any, .any, .any, .v (.one (.sc (.int .i64 t1.1))), .v (.one (.sc (.int .i64 (IntKind.wrap .i64 (t1.1 + (1 : Int)))))), .any, .any, .any, .any, .any, .any, .any, .any, .any, .any, .any, .any, .any, .any, .any, .any, .any, .any, .any, .any, .any, .any, .any, .any, .any, .any, .any, .any, .any, .any, .any, .any, .any, .any, .any], [.gro false (.pair (.int .i64) (.int .i64)) a0 45, .ex false [.c (.sc (.int .i64 a1))] 3, .ex false [.c (.sc (.int .i64 a2))] 3, .ex false [.c (.sc (.int .i64 t1.2))] 3], 4⟩ (fun e s => e = (.exit 0) ∧ s = ⟨[.v (.one (.os 0 0 0 2 (List.length a0) none)), .any, .any, .any, .any, .v (.one (.sc (.int .i64 (z2 t26)))), .any, .any, .any, .any, .any, .any, .any, .any, .any, .any, .any, .any, .any, .any, .any, .any, .any, .any, .any, .any, .any, .any, .any, .any, .any, .any, .any, .any, .any, .any, .any, .any, .any, .any, .any, .any], [.gro false (.pair (.int .i64) (.int .i64)) t26.1 45, .ex false [.c (.sc (.int .i64 a1))] 3, .ex false [.c (.sc (.int .i64 a2))] 3, .ex false [.c (.sc (.int .i64 t26.2.1))] 3], 4⟩) ∧ (True ∧ ((True) ∧ ((0 ≤ (z2 t26) ∧ (z2 t26) ≤ (((List.length a0) : Nat) : Int)))) ∧ (0 < ((List.length a0) - (Int.toNat (z2 t26))) ∧ (0 + (Int.toNat (z2 t26))) + ((List.length a0) - (Int.toNat (z2 t26))) ≤ (List.length t26.1)) ∧ (True ∧ (((0 ≤ (z2 t26) ∧ (z2 t26) ≤ (((List.length a0) : Nat) : Int))) ∧ (True)) ∧ (True ∧ ((True) ∧ (True) ∧ (.v (.one (.os 0 0 0 2 (Int.toNat (z2 t26)) none)) : Tm) = slices_DeleteFunc_alarm_Alarm_alarm_Alarm.R r ∧ ([.gro false (.pair (.int .i64) (.int .i64)) (List.take (0 + (Int.toNat (z2 t26))) t26.1 ++ ((List.take (Nat.min (List.length (List.replicate ((List.length a0) - (Int.toNat (z2 t26))) ((0 : Int), (0 : Int)))) ((List.length a0) - (Int.toNat (z2 t26)))) (List.replicate ((List.length a0) - (Int.toNat (z2 t26))) ((0 : Int), (0 : Int)))) ++ (List.drop ((0 + (Int.toNat (z2 t26))) + Nat.min (List.length (List.replicate ((List.length a0) - (Int.toNat (z2 t26))) ((0 : Int), (0 : Int)))) ((List.length a0) - (Int.toNat (z2 t26)))) t26.1))) 45, .ex false [.c (.sc (.int .i64 a1))] 3, .ex false [.c (.sc (.int .i64 a2))] 3, .ex false [.c (.sc (.int .i64 t26.2.1))] 3] : List Box) = slices_DeleteFunc_alarm_Alarm_alarm_Alarm.B a0 a1 a2 a3 r))))))))))))) (by kernel_rfl) ?_)
  obtain ⟨t1, ht1, h⟩ := of_bind h
  refine ⟨t1, ⟨⟨rfl, rfl⟩, slices_IndexFunc_alarm_Alarm_alarm_Alarm.fun_ ht1, trivial⟩, ?_⟩
  refine ⟨trivial, ?_⟩
  refine ⟨fun b2 => ?_, fun b2 => ?_⟩
  · rw [if_pos (beq_t b2)] at h
    refine ⟨trivial, trivial, ?_⟩
    obtain rfl := Option.some.inj h
    exact ⟨trivial, trivial, rfl, rfl⟩
  · rw [if_neg (beq_f b2)] at h
    refine ⟨trivial, trivial, trivial, trivial, ?_⟩
    obtain ⟨t26, ht26, h⟩ := of_bind h
    refine ⟨⟨trivial, trivial⟩, t26, Trip.loop FUEL (slices_DeleteFunc_alarm_Alarm_alarm_Alarm.l0_ok a0 a1 a2 FUEL a0 t1.2 t1.1 (IntKind.wrap .i64 (t1.1 + (1 : Int))) t26 ht26), ?_⟩
    refine ⟨trivial, ?_⟩
    obtain ⟨g42, h⟩ := of_guard h
    refine ⟨g42, ?_⟩
    obtain ⟨g41, h⟩ := of_guard h
    refine ⟨g41, ?_⟩
    refine ⟨trivial, ?_⟩
    obtain ⟨g40, h⟩ := of_guard h
    refine ⟨g40, ?_⟩
    refine ⟨trivial, ?_⟩
    obtain rfl := Option.some.inj h
    exact ⟨trivial, trivial, rfl, rfl⟩
/-! halter/alarm.Set$2 -/
def alarm_Set_2.f (a0 : Int) (a1 : Int) (a2 : Int) : Option Int :=
  some (IntKind.wrap .i64 (a0 - a2))
def alarm_Set_2.R (r : Int) : Tm := .v (.one (.sc (.int .i64 r)))
theorem alarm_Set_2.fun_ {a0 : Int} {a1 : Int} {a2 : Int} {r : Int} (h : alarm_Set_2.f a0 a1 a2 = some r) : Fun cfg 21 [.agg [.c (.sc (.int .i64 a0)), .c (.sc (.int .i64 a1))], .one (.sc (.int .i64 a2))] [] (alarm_Set_2.R r) [] := by
  unfold alarm_Set_2.f at h
  refine fun_of_run cfg_ok (f := 21) (fn := Tryd.f21) Tryd.func21 rfl (by kernel_rfl) (rs := [.tmp 4]) rfl (nt := 9) rfl (l := fin) (k := (aE 3 (.adj [.drop 0] .nil))) (to_goal (q := (True ∧ (True ∧ (True) ∧ (True) ∧ (True ∧ ((True) ∧ ((True) ∧ True) ∧ (.v (.one (.sc (.int .i64 (IntKind.wrap .i64 (a0 - a2))))) : Tm) = alarm_Set_2.R r ∧ ([] : List Box) = []))))) (by kernel_rfl) ?_)
  refine ⟨trivial, trivial, trivial, trivial, trivial, ?_⟩
  obtain rfl := Option.some.inj h
  exact ⟨trivial, ⟨trivial, trivial⟩, rfl, rfl⟩
/-! slices.BinarySearchFunc[[]halter/alarm.Alarm,halter/alarm.Alarm,int] -/
def slices_BinarySearchFunc_alarm_Alarm_alarm_Alarm_int.l0 (a0 : (List (Int × Int))) (a1 : Int) : Nat → Int → Int → Option Int
  | 0, _, _ => none
  | n + 1, x1, x2 =>
    if x1 < x2 then
      if 0 ≤ (IntKind.wrap .i64 ((shr .u64 (IntKind.wrap .u64 ((IntKind.wrap .i64 (x1 + x2)))) (1 : Int)))) ∧ (IntKind.wrap .i64 ((shr .u64 (IntKind.wrap .u64 ((IntKind.wrap .i64 (x1 + x2)))) (1 : Int)))) < (((List.length a0) : Nat) : Int) then
        (alarm_Set_2.f (List.getD a0 (Int.toNat (IntKind.wrap .i64 ((shr .u64 (IntKind.wrap .u64 ((IntKind.wrap .i64 (x1 + x2)))) (1 : Int))))) ((0 : Int), (0 : Int))).1 (List.getD a0 (Int.toNat (IntKind.wrap .i64 ((shr .u64 (IntKind.wrap .u64 ((IntKind.wrap .i64 (x1 + x2)))) (1 : Int))))) ((0 : Int), (0 : Int))).2 a1).bind fun t10 =>
        if t10 < (0 : Int) then
          slices_BinarySearchFunc_alarm_Alarm_alarm_Alarm_int.l0 a0 a1 n (IntKind.wrap .i64 ((IntKind.wrap .i64 ((shr .u64 (IntKind.wrap .u64 ((IntKind.wrap .i64 (x1 + x2)))) (1 : Int)))) + (1 : Int))) x2
        else
          slices_BinarySearchFunc_alarm_Alarm_alarm_Alarm_int.l0 a0 a1 n x1 (IntKind.wrap .i64 ((shr .u64 (IntKind.wrap .u64 ((IntKind.wrap .i64 (x1 + x2)))) (1 : Int))))
      else none
    else
      some x1
def slices_BinarySearchFunc_alarm_Alarm_alarm_Alarm_int.l0_S (a0 : (List (Int × Int))) (a1 : Int) (x1 : Int) (x2 : Int) : St := ⟨[.v (.one (.fs (.pair (.int .i64) (.int .i64)) a0 false)), .v (.one (.sc (.int .i64 a1))), .v (.one (.sc (.func (.func 21) #[] #[]))), .any, .any, .any, .any, .any, .v (.one (.sc (.int .i64 (((List.length a0) : Nat) : Int)))), .v (.one (.sc (.int .i64 x1))), .v (.one (.sc (.int .i64 x2))), .any, .any, .any, .any, .any, .any, .any, .any, .any, .any, .any, .any, .any, .any, .any, .any, .any, .any, .any, .any, .any, .any, .any, .any, .any, .any, .any, .any, .any, .any, .any, .any, .any, .any, .any, .any, .any, .any], [], 0⟩
def slices_BinarySearchFunc_alarm_Alarm_alarm_Alarm_int.l0_Q (a0 : (List (Int × Int))) (a1 : Int) (t : Int) : Exit → St → Prop := fun e s => e = (.exit 0) ∧ s = ⟨[.v (.one (.fs (.pair (.int .i64) (.int .i64)) a0 false)), .v (.one (.sc (.int .i64 a1))), .v (.one (.sc (.func (.func 21) #[] #[]))), .any, .any, .any, .any, .any, .v (.one (.sc (.int .i64 (((List.length a0) : Nat) : Int)))), .v (.one (.sc (.int .i64 t))), .any, .any, .any, .any, .any, .any, .any, .any, .any, .any, .any, .any, .any, .any, .any, .any, .any, .any, .any, .any, .any, .any, .any, .any, .any, .any, .any, .any, .any, .any, .any, .any, .any, .any, .any, .any, .any, .any, .any], [], 0⟩
theorem slices_BinarySearchFunc_alarm_Alarm_alarm_Alarm_int.l0_ok (a0 : (List (Int × Int))) (a1 : Int) : ∀ (n : Nat) (x1 : Int) (x2 : Int) (r : Int), slices_BinarySearchFunc_alarm_Alarm_alarm_Alarm_int.l0 a0 a1 n x1 x2 = some r → TripN cfg (cpath (Tryd.f20.body.getD .skip) [1, 1, 1, 0, 0, 0]) n (slices_BinarySearchFunc_alarm_Alarm_alarm_Alarm_int.l0_S a0 a1 x1 x2) (slices_BinarySearchFunc_alarm_Alarm_alarm_Alarm_int.l0_Q a0 a1 r) := by
  intro n
  induction n with
  | zero => intro x1 x2 r h; cases h
  | succ n ih =>
    intro x1 x2 r h
    rw [slices_BinarySearchFunc_alarm_Alarm_alarm_Alarm_int.l0] at h
    refine TripN.of_run cfg_ok (k := (.br (.call true [] (Int) alarm_Set_2.R (fun t10 => (.br (.adj [] (.adj [.keep [0, 1, 2, 8, 9, 10], .drop 0] .nil)) (.adj [] (.adj [.keep [0, 1, 2, 8, 9, 10], .drop 0] .nil))))) (.adj [.keep [0, 1, 2, 8, 9], .drop 0] .nil))) (to_goal (q := (True) ∧ (((decide (x1 < x2)) = true → (True) ∧ (True) ∧ (0 ≤ (1 : Int)) ∧ (True) ∧ (0 ≤ (IntKind.wrap .i64 ((shr .u64 (IntKind.wrap .u64 ((IntKind.wrap .i64 (x1 + x2)))) (1 : Int)))) ∧ (IntKind.wrap .i64 ((shr .u64 (IntKind.wrap .u64 ((IntKind.wrap .i64 (x1 + x2)))) (1 : Int)))) < (((List.length a0) : Nat) : Int)) ∧ (True) ∧ (∃ t10 : Int, (Fun cfg 21 [.agg [.c (.sc (.int .i64 (List.getD a0 (Int.toNat (IntKind.wrap .i64 ((shr .u64 (IntKind.wrap .u64 ((IntKind.wrap .i64 (x1 + x2)))) (1 : Int))))) ((0 : Int), (0 : Int))).1)), .c (.sc (.int .i64 (List.getD a0 (Int.toNat (IntKind.wrap .i64 ((shr .u64 (IntKind.wrap .u64 ((IntKind.wrap .i64 (x1 + x2)))) (1 : Int))))) ((0 : Int), (0 : Int))).2))], .one (.sc (.int .i64 a1))] [] (alarm_Set_2.R t10) [] ∧ True) ∧ (True) ∧ (((decide (t10 < (0 : Int))) = true → (True ∧ (True) ∧ (((True) ∧ (True) ∧ True) ∧ TripN cfg (cpath (Tryd.f20.body.getD .skip) [1, 1, 1, 0, 0, 0]) n (slices_BinarySearchFunc_alarm_Alarm_alarm_Alarm_int.l0_S a0 a1 (IntKind.wrap .i64 ((IntKind.wrap .i64 ((shr .u64 (IntKind.wrap .u64 ((IntKind.wrap .i64 (x1 + x2)))) (1 : Int)))) + (1 : Int))) x2) (slices_BinarySearchFunc_alarm_Alarm_alarm_Alarm_int.l0_Q a0 a1 r)))) ∧ ((decide (t10 < (0 : Int))) = false → (True ∧ (((True) ∧ (True) ∧ True) ∧ TripN cfg (cpath (Tryd.f20.body.getD .skip) [1, 1, 1, 0, 0, 0]) n (slices_BinarySearchFunc_alarm_Alarm_alarm_Alarm_int.l0_S a0 a1 x1 (IntKind.wrap .i64 ((shr .u64 (IntKind.wrap .u64 ((IntKind.wrap .i64 (x1 + x2)))) (1 : Int))))) (slices_BinarySearchFunc_alarm_Alarm_alarm_Alarm_int.l0_Q a0 a1 r))))))) ∧ ((decide (x1 < x2)) = false → (((True) ∧ (True) ∧ True) ∧ slices_BinarySearchFunc_alarm_Alarm_alarm_Alarm_int.l0_Q a0 a1 r (.exit 0) ⟨[.v (.one (.fs (.pair (.int .i64) (.int .i64)) a0 false)), .v (.one (.sc (.int .i64 a1))), .v (.one (.sc (.func (.func 21) #[] #[]))), .any, .any, .any, .any, .any, .v (.one (.sc (.int .i64 (((List.length a0) : Nat) : Int)))), .v (.one (.sc (.int .i64 x1))), .any, .any, .any, .any, .any, .any, .any, .any, .any, .any, .any, .any, .any, .any, .any, .any, .any, .any, .any, .any, .any, .any, .any, .any, .any, .any, .any, .any, .any, .any, .any, .any, .any, .any, .any, .any, .any, .any, .any], [], 0⟩)))) (by kernel_rfl) ?_)
    refine ⟨trivial, ?_⟩
    refine ⟨fun b9 => ?_, fun b9 => ?_⟩
    · rw [if_pos (of_decide_eq_true b9)] at h
      refine ⟨trivial, trivial, ?_⟩
      refine ⟨(by decide), ?_⟩
      refine ⟨trivial, ?_⟩
      obtain ⟨g12, h⟩ := of_guard h
      refine ⟨g12, ?_⟩
      refine ⟨trivial, ?_⟩
      obtain ⟨t10, ht10, h⟩ := of_bind h
      refine ⟨t10, ⟨alarm_Set_2.fun_ ht10, trivial⟩, ?_⟩
      refine ⟨trivial, ?_⟩
      refine ⟨fun b11 => ?_, fun b11 => ?_⟩
      · rw [if_pos (of_decide_eq_true b11)] at h
        refine ⟨trivial, trivial, ?_⟩
        exact ⟨⟨trivial, trivial, trivial⟩, ih (IntKind.wrap .i64 ((IntKind.wrap .i64 ((shr .u64 (IntKind.wrap .u64 ((IntKind.wrap .i64 (x1 + x2)))) (1 : Int)))) + (1 : Int))) x2 r h⟩
      · rw [if_neg (of_decide_eq_false b11)] at h
        refine ⟨trivial, ?_⟩
        exact ⟨⟨trivial, trivial, trivial⟩, ih x1 (IntKind.wrap .i64 ((shr .u64 (IntKind.wrap .u64 ((IntKind.wrap .i64 (x1 + x2)))) (1 : Int)))) r h⟩
    · rw [if_neg (of_decide_eq_false b9)] at h
      obtain rfl := Option.some.inj h
      exact ⟨⟨trivial, trivial, trivial⟩, rfl, rfl⟩
def slices_BinarySearchFunc_alarm_Alarm_alarm_Alarm_int.f (a0 : (List (Int × Int))) (a1 : Int) : Option (Int × Bool) :=
  (slices_BinarySearchFunc_alarm_Alarm_alarm_Alarm_int.l0 a0 a1 FUEL (0 : Int) (((List.length a0) : Nat) : Int)).bind fun t8 =>
  if t8 < (((List.length a0) : Nat) : Int) then
    if 0 ≤ t8 ∧ t8 < (((List.length a0) : Nat) : Int) then
      (alarm_Set_2.f (List.getD a0 (Int.toNat t8) ((0 : Int), (0 : Int))).1 (List.getD a0 (Int.toNat t8) ((0 : Int), (0 : Int))).2 a1).bind fun t16 =>
      some (t8, (t16 == (0 : Int)))
    else none
  else
    some (t8, false)
def slices_BinarySearchFunc_alarm_Alarm_alarm_Alarm_int.R (r : Int × Bool) : Tm := .tup [.one (.sc (.int .i64 r.1)), .one (.sc (.bool r.2))]
def slices_BinarySearchFunc_alarm_Alarm_alarm_Alarm_int.B (a0 : (List (Int × Int))) (a1 : Int) (r : Int × Bool) : List Box := []
theorem slices_BinarySearchFunc_alarm_Alarm_alarm_Alarm_int.fun_ {a0 : (List (Int × Int))} {a1 : Int} {r : Int × Bool} (h : slices_BinarySearchFunc_alarm_Alarm_alarm_Alarm_int.f a0 a1 = some r) : Fun cfg 20 [.one (.fs (.pair (.int .i64) (.int .i64)) a0 false), .one (.sc (.int .i64 a1)), .one (.sc (.func (.func 21) #[] #[]))] [] (slices_BinarySearchFunc_alarm_Alarm_alarm_Alarm_int.R r) (slices_BinarySearchFunc_alarm_Alarm_alarm_Alarm_int.B a0 a1 r) := by
  unfold slices_BinarySearchFunc_alarm_Alarm_alarm_Alarm_int.f at h
  refine fun_of_run cfg_ok (f := 20) (fn := Tryd.f20) Tryd.func20 rfl (by kernel_rfl) (rs := [.tmp 6, .tmp 7]) rfl (nt := 49) rfl (l := fin) (k := (aE 4 (.adj [.keep [0, 1, 2, 8, 9, 10]] (.sub (Int) (fun _ => (.exit 0)) (fun t8 => ⟨[.v (.one (.fs (.pair (.int .i64) (.int .i64)) a0 false)), .v (.one (.sc (.int .i64 a1))), .v (.one (.sc (.func (.func 21) #[] #[]))), .any, .any, .any, .any, .any, .v (.one (.sc (.int .i64 (((List.length a0) : Nat) : Int)))), .v (.one (.sc (.int .i64 t8))), .any, .any, .any, .any, .any, .any, .any, .any, .any, .any, .any, .any, .any, .any, .any, .any, .any, .any, .any, .any, .any, .any, .any, .any, .any, .any, .any, .any, .any, .any, .any, .any, .any, .any, .any, .any, .any, .any, .any], [], 0⟩) (fun t8 => (.br (oT 6 (.call true [] (Int) alarm_Set_2.R (fun t16 => (oT 2 (aE 2 .nil))))) (oF 8 (aE 2 .nil)))))))) (to_goal (q := (True ∧ (True ∧ (True) ∧ (True ∧ (True ∧ (((True) ∧ True) ∧ (∃ t8 : Int, Trip cfg (.loop (cpath (Tryd.f20.body.getD .skip) [1, 1, 1, 0, 0, 0])) ⟨[.v (.one (.fs (.pair (.int .i64) (.int .i64)) a0 false)), .v (.one (.sc (.int .i64 a1))), .v (.one (.sc (.func (.func 21) #[] #[]))), .any, .any, .any, .any, .any, .v (.one (.sc (.int .i64 (((List.length a0) : Nat) : Int)))), .v (.one (.sc (.int .i64 (0 : Int)))), .v (.one (.sc (.int .i64 (((List.length a0) : Nat) : Int)))), .any, .any, .any, .any, .any, .any, .any, .any, .any, .any, .any, .any, .any, .any, .any, .any, .any, .any, .any, .any, .any, .any, .any, .any, .any, .any, .any, .any, .any, .any, .any, .any, .any, .any, .any, .any, .any, .any], [], 0⟩ (fun e s => e = (.exit 0) ∧ s = ⟨[.v (.one (.fs (.pair (.int .i64) (.int .i64)) a0 false)), .v (.one (.sc (.int .i64 a1))), .v (.one (.sc (.func (.func 21) #[] #[]))), .any, .any, .any, .any, .any, .v (.one (.sc (.int .i64 (((List.length a0) : Nat) : Int)))), .v (.one (.sc (.int .i64 t8))), .any, .any, .any, .any, .any, .any, .any, .any, .any, .any, .any, .any, .any, .any, .any, .any, .any, .any, .any, .any, .any, .any, .any, .any, .any, .any, .any, .any, .any, .any, .any, .any, .any, .any, .any, .any, .any, .any, .any], [], 0⟩) ∧ (True) ∧ (((decide (t8 < (((List.length a0) : Nat) : Int))) = true → ((decide (t8 < (((List.length a0) : Nat) : Int))) = true ∧ ((decide (t8 < (((List.length a0) : Nat) : Int))) = true ∧ ((decide (t8 < (((List.length a0) : Nat) : Int))) = true ∧ (0 ≤ t8 ∧ t8 < (((List.length a0) : Nat) : Int)) ∧ ((decide (t8 < (((List.length a0) : Nat) : Int))) = true ∧ (True) ∧ ((decide (t8 < (((List.length a0) : Nat) : Int))) = true ∧ ((decide (t8 < (((List.length a0) : Nat) : Int))) = true ∧ (∃ t16 : Int, (Fun cfg 21 [.agg [.c (.sc (.int .i64 (List.getD a0 (Int.toNat t8) ((0 : Int), (0 : Int))).1)), .c (.sc (.int .i64 (List.getD a0 (Int.toNat t8) ((0 : Int), (0 : Int))).2))], .one (.sc (.int .i64 a1))] [] (alarm_Set_2.R t16) [] ∧ True) ∧ ((decide (t8 < (((List.length a0) : Nat) : Int))) = true ∧ (True) ∧ ((decide (t8 < (((List.length a0) : Nat) : Int))) = true ∧ (True ∧ ((True) ∧ (True) ∧ (.tup [.one (.sc (.int .i64 t8)), .one (.sc (.bool (t16 == (0 : Int))))] : Tm) = slices_BinarySearchFunc_alarm_Alarm_alarm_Alarm_int.R r ∧ ([] : List Box) = slices_BinarySearchFunc_alarm_Alarm_alarm_Alarm_int.B a0 a1 r)))))))))))) ∧ ((decide (t8 < (((List.length a0) : Nat) : Int))) = false → ((decide (t8 < (((List.length a0) : Nat) : Int))) = false ∧ ((decide (t8 < (((List.length a0) : Nat) : Int))) = false ∧ ((decide (t8 < (((List.length a0) : Nat) : Int))) = false ∧ ((decide (t8 < (((List.length a0) : Nat) : Int))) = false ∧ ((decide (t8 < (((List.length a0) : Nat) : Int))) = false ∧ ((decide (t8 < (((List.length a0) : Nat) : Int))) = false ∧ ((decide (t8 < (((List.length a0) : Nat) : Int))) = false ∧ ((decide (t8 < (((List.length a0) : Nat) : Int))) = false ∧ (True ∧ ((True) ∧ (True) ∧ (.tup [.one (.sc (.int .i64 t8)), .one (.sc (.bool false))] : Tm) = slices_BinarySearchFunc_alarm_Alarm_alarm_Alarm_int.R r ∧ ([] : List Box) = slices_BinarySearchFunc_alarm_Alarm_alarm_Alarm_int.B a0 a1 r))))))))))))))))))) (by kernel_rfl) ?_)
  refine ⟨trivial, trivial, trivial, trivial, trivial, ?_⟩
  obtain ⟨t8, ht8, h⟩ := of_bind h
  refine ⟨⟨trivial, trivial⟩, t8, Trip.loop FUEL (slices_BinarySearchFunc_alarm_Alarm_alarm_Alarm_int.l0_ok a0 a1 FUEL (0 : Int) (((List.length a0) : Nat) : Int) t8 ht8), ?_⟩
  refine ⟨trivial, ?_⟩
  refine ⟨fun b15 => ?_, fun b15 => ?_⟩
  · rw [if_pos (of_decide_eq_true b15)] at h
    refine ⟨b15, ?_⟩
    refine ⟨b15, ?_⟩
    refine ⟨b15, ?_⟩
    obtain ⟨g17, h⟩ := of_guard h
    refine ⟨g17, ?_⟩
    refine ⟨b15, ?_⟩
    refine ⟨trivial, ?_⟩
    refine ⟨b15, ?_⟩
    refine ⟨b15, ?_⟩
    obtain ⟨t16, ht16, h⟩ := of_bind h
    refine ⟨t16, ⟨alarm_Set_2.fun_ ht16, trivial⟩, ?_⟩
    refine ⟨b15, ?_⟩
    refine ⟨trivial, ?_⟩
    refine ⟨b15, ?_⟩
    refine ⟨trivial, ?_⟩
    obtain rfl := Option.some.inj h
    exact ⟨trivial, trivial, rfl, rfl⟩
  · rw [if_neg (of_decide_eq_false b15)] at h
    refine ⟨b15, ?_⟩
    refine ⟨b15, ?_⟩
    refine ⟨b15, ?_⟩
    refine ⟨b15, ?_⟩
    refine ⟨b15, ?_⟩
    refine ⟨b15, ?_⟩
    refine ⟨b15, ?_⟩
    refine ⟨b15, ?_⟩
    refine ⟨trivial, ?_⟩
    obtain rfl := Option.some.inj h
    exact ⟨trivial, trivial, rfl, rfl⟩
/-! halter/alarm.Set -/
def alarm_Set.f (a0 : (List (Int × Int))) (a1 : Int) (a2 : Int) (a3 : Int) : Option ((List (Int × Int)) × Int × (Option Int)) :=
  (alarm_Check.f a0).bind fun t1 =>
  if ¬ (t1 = none) then
    some (([] : List (Int × Int)), (0 : Int), (some (22 : Int)))
  else
    (alarm_timed.f a2).bind fun t3 =>
    if ¬ (t3 = true) then
      some (([] : List (Int × Int)), (0 : Int), (some (22 : Int)))
    else
      (pids_Check.f a1).bind fun t5 =>
      if ¬ (t5 = none) then
        some (([] : List (Int × Int)), (0 : Int), (some (22 : Int)))
      else
        if a3 < (0 : Int) then
          some (([] : List (Int × Int)), (0 : Int), (some (22 : Int)))
        else
          if a3 > (4294967296 : Int) then
            some (([] : List (Int × Int)), (0 : Int), (some (22 : Int)))
          else
            (slices_Clone_alarm_Alarm_alarm_Alarm.f a0).bind fun t9 =>
            (slices_DeleteFunc_alarm_Alarm_alarm_Alarm.f t9 a1 a2 (0 : Int)).bind fun t10 =>
            match t10 with
            | .inl t11 =>
              if a3 > (0 : Int) then
                (slices_BinarySearchFunc_alarm_Alarm_alarm_Alarm_int.f t11.1 a1).bind fun t13 =>
                (alarm_InsertT.f t13.1 (List.take 1 [(a1, (IntKind.wrap .i64 (a2 + a3)))]) t11.1).bind fun t14 =>
                some (t14, t11.2, none)
              else
                some (t11.1, t11.2, none)
            | .inr t15 =>
              if a3 > (0 : Int) then
                if 0 + t15.1 ≤ (List.length t15.2.1) then
                  (slices_BinarySearchFunc_alarm_Alarm_alarm_Alarm_int.f (List.take t15.1 t15.2.1) a1).bind fun t18 =>
                  (alarm_Insert.f t15.1 t18.1 (List.take 1 [(a1, (IntKind.wrap .i64 (a2 + a3)))]) t15.2.1).bind fun t19 =>
                  some (t19, t15.2.2, none)
                else none
              else
                if (0 + t15.1 ≤ (List.length t15.2.1)) ∧ True then
                  some ((List.take t15.1 t15.2.1), t15.2.2, none)
                else none
def alarm_Set.R (r : (List (Int × Int)) × Int × (Option Int)) : Tm := .tup [.one (.fs (.pair (.int .i64) (.int .i64)) r.1 false), .one (.sc (.int .i64 r.2.1)), .one (.err r.2.2)]
theorem alarm_Set.fun_ {a0 : (List (Int × Int))} {a1 : Int} {a2 : Int} {a3 : Int} {r : (List (Int × Int)) × Int × (Option Int)} (h : alarm_Set.f a0 a1 a2 a3 = some r) : Fun cfg 6 [.one (.fs (.pair (.int .i64) (.int .i64)) a0 false), .one (.sc (.int .i64 a1)), .one (.sc (.int .i64 a2)), .one (.sc (.int .i64 a3))] [] (alarm_Set.R r) [] := by
  unfold alarm_Set.f at h
  refine fun_of_run cfg_ok (f := 6) (fn := Tryd.f6) Tryd.func6 rfl (by kernel_rfl) (rs := [.tmp 8, .tmp 9, .tmp 10]) rfl (nt := 60) rfl (l := fin) (k := (.call true [] ((Option Int)) alarm_Check.R (fun t1 => (.br (oT 14 (aE 2 (.adj [.co 0 true [(.pair (.int .i64) (.int .i64))], .drop 0] .nil))) (.one false (.call true [] (Bool) alarm_timed.R (fun t3 => (oF 2 (.br (oT 10 (aE 2 (.adj [.co 0 true [(.pair (.int .i64) (.int .i64))], .drop 0] .nil))) (.one false (.call true [] ((Option Int)) pids_Check.R (fun t5 => (oF 2 (.br (oT 6 (aE 2 (.adj [.co 0 true [(.pair (.int .i64) (.int .i64))], .drop 0] .nil))) (oF 2 (.br (oT 3 (aE 2 (.adj [.co 0 true [(.pair (.int .i64) (.int .i64))], .drop 0] .nil))) (oF 2 (.br (aE 2 (.adj [.co 0 true [(.pair (.int .i64) (.int .i64))], .drop 0] .nil)) (.callR true [] [] ((List (Int × Int))) (fun t9 => (slices_Clone_alarm_Alarm_alarm_Alarm.R t9)) (fun t9 => (slices_Clone_alarm_Alarm_alarm_Alarm.B a0 t9)) (fun t9 => (.alt (.callR true [] [3, 0, 1, 2] ((List (Int × Int)) × Int) (fun t11 => (slices_DeleteFunc_alarm_Alarm_alarm_Alarm.R (.inl t11))) (fun t11 => (slices_DeleteFunc_alarm_Alarm_alarm_Alarm.B t9 a1 a2 (0 : Int) (.inl t11))) (fun t11 => (.br (.callR true [] [] (Int × Bool) (fun t13 => (slices_BinarySearchFunc_alarm_Alarm_alarm_Alarm_int.R t13)) (fun t13 => (slices_BinarySearchFunc_alarm_Alarm_alarm_Alarm_int.B t11.1 a1 t13)) (fun t13 => (.d .no (.callR false [] [3] ((List (Int × Int))) (fun t14 => (alarm_InsertT.R t14)) (fun t14 => (alarm_InsertT.B t13.1 (List.take 1 [(a1, (IntKind.wrap .i64 (a2 + a3)))]) t11.1 t14)) (fun t14 => (.dr [(0, dN), (2, dN), (1, dN), (3, dN), (4, dN)] (.adj [] (.adj [.co 0 true [], .drop 0] .nil)))))))) (.dr [(0, dN), (2, dN), (1, dN), (3, dN), (4, dN)] (.adj [] (.adj [.co 0 true [], .drop 0] .nil)))))) (.callR true [] [3, 0, 1, 2] (Nat × (List (Int × Int)) × Int) (fun t15 => (slices_DeleteFunc_alarm_Alarm_alarm_Alarm.R (.inr t15))) (fun t15 => (slices_DeleteFunc_alarm_Alarm_alarm_Alarm.B t9 a1 a2 (0 : Int) (.inr t15))) (fun t15 => (.br (.callR false [] [] (Int × Bool) (fun t18 => (slices_BinarySearchFunc_alarm_Alarm_alarm_Alarm_int.R t18)) (fun t18 => (slices_BinarySearchFunc_alarm_Alarm_alarm_Alarm_int.B (List.take t15.1 t15.2.1) a1 t18)) (fun t18 => (.d .no (.callR false [] [3] ((List (Int × Int))) (fun t19 => (alarm_Insert.R t19)) (fun t19 => (alarm_Insert.B t15.1 t18.1 (List.take 1 [(a1, (IntKind.wrap .i64 (a2 + a3)))]) t15.2.1 t19)) (fun t19 => (.dr [(0, dN), (2, dN), (1, dN), (3, dN), (4, dN)] (.adj [] (.adj [.co 0 true [], .drop 0] .nil)))))))) (.dr [(0, dN), (2, dN), (1, dN), (3, dN), (4, dN)] (.adj [] (.adj [.co 0 false [], .drop 0] .nil))))))))))))))))))))))))))) (to_goal (q := (∃ t1 : (Option Int), (Fun cfg 13 [.one (.fs (.pair (.int .i64) (.int .i64)) a0 false)] [] (alarm_Check.R t1) [] ∧ True) ∧ (True) ∧ (((!(Option.isNone t1)) = false → (True) ∧ ((!(Option.isNone t1)) = false ∧ (∃ t3 : Bool, (Fun cfg 15 [.one (.sc (.int .i64 a2))] [] (alarm_timed.R t3) [] ∧ True) ∧ ((!(Option.isNone t1)) = false ∧ ((!(Option.isNone t1)) = false ∧ (((!t3) = false → (True) ∧ ((!t3) = false ∧ (∃ t5 : (Option Int), (Fun cfg 16 [.one (.sc (.int .i64 a1))] [] (pids_Check.R t5) [] ∧ True) ∧ ((!t3) = false ∧ (True) ∧ ((!t3) = false ∧ (((!(Option.isNone t5)) = false → ((!(Option.isNone t5)) = false ∧ (True) ∧ ((!(Option.isNone t5)) = false ∧ (((decide (a3 < (0 : Int))) = false → ((decide (a3 < (0 : Int))) = false ∧ (True) ∧ ((decide (a3 < (0 : Int))) = false ∧ (((decide (a3 > (4294967296 : Int))) = true → (True ∧ (True ∧ ((True) ∧ ((True) ∧ (True) ∧ True) ∧ (.tup [.one (.fs (.pair (.int .i64) (.int .i64)) ([] : List (Int × Int)) false), .one (.sc (.int .i64 (0 : Int))), .one (.err (some (22 : Int)))] : Tm) = alarm_Set.R r ∧ ([] : List Box) = [])))) ∧ ((decide (a3 > (4294967296 : Int))) = false → (True) ∧ (∃ t9 : (List (Int × Int)), (Fun cfg 18 [.one (.fs (.pair (.int .i64) (.int .i64)) a0 false)] [] (slices_Clone_alarm_Alarm_alarm_Alarm.R t9) (slices_Clone_alarm_Alarm_alarm_Alarm.B a0 t9) ∧ True) ∧ (True) ∧ ((∃ t11 : (List (Int × Int)) × Int, (Fun cfg 17 [.one (.os 0 0 0 2 (List.length t9) none), .clo 19 [(false, 1), (false, 1), (false, 1)] [.c (.ptr 1 ⟨0, 0, 0, 0⟩), .c (.ptr 2 ⟨0, 0, 0, 0⟩), .c (.ptr 3 ⟨0, 0, 0, 0⟩)]] [.gro false (.pair (.int .i64) (.int .i64)) t9 45, .ex false [.c (.sc (.int .i64 a1))] 3, .ex false [.c (.sc (.int .i64 a2))] 3, .ex false [.c (.sc (.int .i64 (0 : Int)))] 3] (slices_DeleteFunc_alarm_Alarm_alarm_Alarm.R (.inl t11)) (slices_DeleteFunc_alarm_Alarm_alarm_Alarm.B t9 a1 a2 (0 : Int) (.inl t11)) ∧ True) ∧ (True) ∧ (((decide (a3 > (0 : Int))) = true → (True) ∧ (∃ t13 : Int × Bool, ((0 = 0 ∧ (List.length t11.1) = (List.length t11.1)) ∧ Fun cfg 20 [.one (.fs (.pair (.int .i64) (.int .i64)) t11.1 false), .one (.sc (.int .i64 a1)), .one (.sc (.func (.func 21) #[] #[]))] [] (slices_BinarySearchFunc_alarm_Alarm_alarm_Alarm_int.R t13) (slices_BinarySearchFunc_alarm_Alarm_alarm_Alarm_int.B t11.1 a1 t13) ∧ True) ∧ (True) ∧ (True) ∧ (True) ∧ (∃ t14 : (List (Int × Int)), ((0 + 1 ≤ 1) ∧ Fun cfg 22 [.one (.os 0 0 0 2 (List.length t11.1) none), .one (.sc (.int .i64 t13.1)), .one (.fs (.pair (.int .i64) (.int .i64)) (List.take 1 [(a1, (IntKind.wrap .i64 (a2 + a3)))]) false)] [.gro false (.pair (.int .i64) (.int .i64)) t11.1 45] (alarm_InsertT.R t14) (alarm_InsertT.B t13.1 (List.take 1 [(a1, (IntKind.wrap .i64 (a2 + a3)))]) t11.1 t14) ∧ True) ∧ (True) ∧ (True ∧ ((True) ∧ ((((0 = 0 ∧ (List.length t14) = (List.length t14))) ∧ True) ∧ (True) ∧ True) ∧ (.tup [.one (.fs (.pair (.int .i64) (.int .i64)) t14 false), .one (.sc (.int .i64 t11.2)), .one (.err none)] : Tm) = alarm_Set.R r ∧ ([] : List Box) = []))))) ∧ ((decide (a3 > (0 : Int))) = false → (True) ∧ (True ∧ ((True) ∧ ((((0 = 0 ∧ (List.length t11.1) = (List.length t11.1))) ∧ True) ∧ (True) ∧ True) ∧ (.tup [.one (.fs (.pair (.int .i64) (.int .i64)) t11.1 false), .one (.sc (.int .i64 t11.2)), .one (.err none)] : Tm) = alarm_Set.R r ∧ ([] : List Box) = []))))) ∨ (∃ t15 : Nat × (List (Int × Int)) × Int, (Fun cfg 17 [.one (.os 0 0 0 2 (List.length t9) none), .clo 19 [(false, 1), (false, 1), (false, 1)] [.c (.ptr 1 ⟨0, 0, 0, 0⟩), .c (.ptr 2 ⟨0, 0, 0, 0⟩), .c (.ptr 3 ⟨0, 0, 0, 0⟩)]] [.gro false (.pair (.int .i64) (.int .i64)) t9 45, .ex false [.c (.sc (.int .i64 a1))] 3, .ex false [.c (.sc (.int .i64 a2))] 3, .ex false [.c (.sc (.int .i64 (0 : Int)))] 3] (slices_DeleteFunc_alarm_Alarm_alarm_Alarm.R (.inr t15)) (slices_DeleteFunc_alarm_Alarm_alarm_Alarm.B t9 a1 a2 (0 : Int) (.inr t15)) ∧ True) ∧ (True) ∧ (((decide (a3 > (0 : Int))) = true → (True) ∧ (∃ t18 : Int × Bool, ((0 + t15.1 ≤ (List.length t15.2.1)) ∧ Fun cfg 20 [.one (.fs (.pair (.int .i64) (.int .i64)) (List.take t15.1 t15.2.1) false), .one (.sc (.int .i64 a1)), .one (.sc (.func (.func 21) #[] #[]))] [] (slices_BinarySearchFunc_alarm_Alarm_alarm_Alarm_int.R t18) (slices_BinarySearchFunc_alarm_Alarm_alarm_Alarm_int.B (List.take t15.1 t15.2.1) a1 t18) ∧ True) ∧ (True) ∧ (True) ∧ (True) ∧ (∃ t19 : (List (Int × Int)), ((0 + 1 ≤ 1) ∧ Fun cfg 22 [.one (.os 0 0 0 2 t15.1 none), .one (.sc (.int .i64 t18.1)), .one (.fs (.pair (.int .i64) (.int .i64)) (List.take 1 [(a1, (IntKind.wrap .i64 (a2 + a3)))]) false)] [.gro false (.pair (.int .i64) (.int .i64)) t15.2.1 45] (alarm_Insert.R t19) (alarm_Insert.B t15.1 t18.1 (List.take 1 [(a1, (IntKind.wrap .i64 (a2 + a3)))]) t15.2.1 t19) ∧ True) ∧ (True) ∧ (True ∧ ((True) ∧ ((((0 = 0 ∧ (List.length t19) = (List.length t19))) ∧ True) ∧ (True) ∧ True) ∧ (.tup [.one (.fs (.pair (.int .i64) (.int .i64)) t19 false), .one (.sc (.int .i64 (z2 t15))), .one (.err none)] : Tm) = alarm_Set.R r ∧ ([] : List Box) = []))))) ∧ ((decide (a3 > (0 : Int))) = false → (True) ∧ (True ∧ ((True) ∧ (((0 + t15.1 ≤ (List.length t15.2.1)) ∧ True) ∧ (True) ∧ True) ∧ (.tup [.one (.fs (.pair (.int .i64) (.int .i64)) (List.take t15.1 t15.2.1) false), .one (.sc (.int .i64 (z2 t15))), .one (.err none)] : Tm) = alarm_Set.R r ∧ ([] : List Box) = [])))))))))))) ∧ ((decide (a3 < (0 : Int))) = true → ((decide (a3 < (0 : Int))) = true ∧ ((decide (a3 < (0 : Int))) = true ∧ (true = true ∧ (True ∧ (True ∧ ((True) ∧ ((True) ∧ (True) ∧ True) ∧ (.tup [.one (.fs (.pair (.int .i64) (.int .i64)) ([] : List (Int × Int)) false), .one (.sc (.int .i64 (0 : Int))), .one (.err (some (22 : Int)))] : Tm) = alarm_Set.R r ∧ ([] : List Box) = []))))))))))) ∧ ((!(Option.isNone t5)) = true → ((!(Option.isNone t5)) = true ∧ ((!(Option.isNone t5)) = true ∧ (true = true ∧ (true = true ∧ (true = true ∧ (true = true ∧ (True ∧ (True ∧ ((True) ∧ ((True) ∧ (True) ∧ True) ∧ (.tup [.one (.fs (.pair (.int .i64) (.int .i64)) ([] : List (Int × Int)) false), .one (.sc (.int .i64 (0 : Int))), .one (.err (some (22 : Int)))] : Tm) = alarm_Set.R r ∧ ([] : List Box) = [])))))))))))))))) ∧ ((!t3) = true → ((!t3) = true ∧ ((!t3) = true ∧ ((!t3) = true ∧ (true = true ∧ (true = true ∧ (true = true ∧ (true = true ∧ (true = true ∧ (true = true ∧ (true = true ∧ (True ∧ (True ∧ ((True) ∧ ((True) ∧ (True) ∧ True) ∧ (.tup [.one (.fs (.pair (.int .i64) (.int .i64)) ([] : List (Int × Int)) false), .one (.sc (.int .i64 (0 : Int))), .one (.err (some (22 : Int)))] : Tm) = alarm_Set.R r ∧ ([] : List Box) = [])))))))))))))))))))) ∧ ((!(Option.isNone t1)) = true → ((!(Option.isNone t1)) = true ∧ ((!(Option.isNone t1)) = true ∧ ((!(Option.isNone t1)) = true ∧ (true = true ∧ (true = true ∧ (true = true ∧ (true = true ∧ (true = true ∧ (true = true ∧ (true = true ∧ (true = true ∧ (true = true ∧ (true = true ∧ (true = true ∧ (True ∧ (True ∧ ((True) ∧ ((True) ∧ (True) ∧ True) ∧ (.tup [.one (.fs (.pair (.int .i64) (.int .i64)) ([] : List (Int × Int)) false), .one (.sc (.int .i64 (0 : Int))), .one (.err (some (22 : Int)))] : Tm) = alarm_Set.R r ∧ ([] : List Box) = []))))))))))))))))))))) (by kernel_rfl) ?_)
  obtain ⟨t1, ht1, h⟩ := of_bind h
  refine ⟨t1, ⟨alarm_Check.fun_ ht1, trivial⟩, ?_⟩
  refine ⟨trivial, ?_⟩
  refine ⟨fun b2 => ?_, fun b2 => ?_⟩
  · rw [if_neg (not_not_intro (none_t (not_f b2)))] at h
    refine ⟨trivial, ?_⟩
    refine ⟨b2, ?_⟩
    obtain ⟨t3, ht3, h⟩ := of_bind h
    refine ⟨t3, ⟨alarm_timed.fun_ ht3, trivial⟩, ?_⟩
    refine ⟨b2, ?_⟩
    refine ⟨b2, ?_⟩
    refine ⟨fun b4 => ?_, fun b4 => ?_⟩
    · rw [if_neg (not_not_intro (not_f b4))] at h
      refine ⟨trivial, ?_⟩
      refine ⟨b4, ?_⟩
      obtain ⟨t5, ht5, h⟩ := of_bind h
      refine ⟨t5, ⟨pids_Check.fun_ ht5, trivial⟩, ?_⟩
      refine ⟨b4, ?_⟩
      refine ⟨trivial, ?_⟩
      refine ⟨b4, ?_⟩
      refine ⟨fun b6 => ?_, fun b6 => ?_⟩
      · rw [if_neg (not_not_intro (none_t (not_f b6)))] at h
        refine ⟨b6, ?_⟩
        refine ⟨trivial, ?_⟩
        refine ⟨b6, ?_⟩
        refine ⟨fun b7 => ?_, fun b7 => ?_⟩
        · rw [if_neg (of_decide_eq_false b7)] at h
          refine ⟨b7, ?_⟩
          refine ⟨trivial, ?_⟩
          refine ⟨b7, ?_⟩
          refine ⟨fun b8 => ?_, fun b8 => ?_⟩
          · rw [if_pos (of_decide_eq_true b8)] at h
            refine ⟨trivial, trivial, ?_⟩
            obtain rfl := Option.some.inj h
            exact ⟨trivial, ⟨trivial, trivial, trivial⟩, rfl, rfl⟩
          · rw [if_neg (of_decide_eq_false b8)] at h
            refine ⟨trivial, ?_⟩
            obtain ⟨t9, ht9, h⟩ := of_bind h
            refine ⟨t9, ⟨slices_Clone_alarm_Alarm_alarm_Alarm.fun_ ht9, trivial⟩, ?_⟩
            refine ⟨trivial, ?_⟩
            obtain ⟨t10, ht10, h⟩ := of_bind h
            rcases t10 with t11 | t15
            · dsimp only at h
              left
              refine ⟨t11, ⟨slices_DeleteFunc_alarm_Alarm_alarm_Alarm.fun_ ht10, trivial⟩, ?_⟩
              refine ⟨trivial, ?_⟩
              refine ⟨fun b12 => ?_, fun b12 => ?_⟩
              · rw [if_pos (of_decide_eq_true b12)] at h
                refine ⟨trivial, ?_⟩
                obtain ⟨t13, ht13, h⟩ := of_bind h
                refine ⟨t13, ⟨⟨rfl, rfl⟩, slices_BinarySearchFunc_alarm_Alarm_alarm_Alarm_int.fun_ ht13, trivial⟩, ?_⟩
                refine ⟨trivial, trivial, trivial, ?_⟩
                obtain ⟨t14, ht14, h⟩ := of_bind h
                refine ⟨t14, ⟨(by decide), alarm_InsertT.fun_ ht14, trivial⟩, ?_⟩
                refine ⟨trivial, trivial, ?_⟩
                obtain rfl := Option.some.inj h
                exact ⟨trivial, ⟨⟨⟨rfl, rfl⟩, trivial⟩, trivial, trivial⟩, rfl, rfl⟩
              · rw [if_neg (of_decide_eq_false b12)] at h
                refine ⟨trivial, trivial, ?_⟩
                obtain rfl := Option.some.inj h
                exact ⟨trivial, ⟨⟨⟨rfl, rfl⟩, trivial⟩, trivial, trivial⟩, rfl, rfl⟩
            · dsimp only at h
              right
              refine ⟨t15, ⟨slices_DeleteFunc_alarm_Alarm_alarm_Alarm.fun_ ht10, trivial⟩, ?_⟩
              refine ⟨trivial, ?_⟩
              refine ⟨fun b16 => ?_, fun b16 => ?_⟩
              · rw [if_pos (of_decide_eq_true b16)] at h
                refine ⟨trivial, ?_⟩
                obtain ⟨g17, h⟩ := of_guard h
                obtain ⟨t18, ht18, h⟩ := of_bind h
                refine ⟨t18, ⟨g17, slices_BinarySearchFunc_alarm_Alarm_alarm_Alarm_int.fun_ ht18, trivial⟩, ?_⟩
                refine ⟨trivial, trivial, trivial, ?_⟩
                obtain ⟨t19, ht19, h⟩ := of_bind h
                refine ⟨t19, ⟨(by decide), alarm_Insert.fun_ ht19, trivial⟩, ?_⟩
                refine ⟨trivial, trivial, ?_⟩
                obtain rfl := Option.some.inj h
                exact ⟨trivial, ⟨⟨⟨rfl, rfl⟩, trivial⟩, trivial, trivial⟩, rfl, rfl⟩
              · rw [if_neg (of_decide_eq_false b16)] at h
                refine ⟨trivial, trivial, ?_⟩
                obtain ⟨g20, h⟩ := of_guard h
                obtain rfl := Option.some.inj h
                exact ⟨trivial, ⟨g20, trivial, trivial⟩, rfl, rfl⟩
        · rw [if_pos (of_decide_eq_true b7)] at h
          refine ⟨b7, ?_⟩
          refine ⟨b7, ?_⟩
          refine ⟨rfl, trivial, trivial, ?_⟩
          obtain rfl := Option.some.inj h
          exact ⟨trivial, ⟨trivial, trivial, trivial⟩, rfl, rfl⟩
      · rw [if_pos (none_f (not_t b6))] at h
        refine ⟨b6, ?_⟩
        refine ⟨b6, ?_⟩
        refine ⟨rfl, rfl, rfl, rfl, trivial, trivial, ?_⟩
        obtain rfl := Option.some.inj h
        exact ⟨trivial, ⟨trivial, trivial, trivial⟩, rfl, rfl⟩
    · rw [if_pos (ff (not_t b4))] at h
      refine ⟨b4, ?_⟩
      refine ⟨b4, ?_⟩
      refine ⟨b4, ?_⟩
      refine ⟨rfl, rfl, rfl, rfl, rfl, rfl, rfl, trivial, trivial, ?_⟩
      obtain rfl := Option.some.inj h
      exact ⟨trivial, ⟨trivial, trivial, trivial⟩, rfl, rfl⟩
  · rw [if_pos (none_f (not_t b2))] at h
    refine ⟨b2, ?_⟩
    refine ⟨b2, ?_⟩
    refine ⟨b2, ?_⟩
    refine ⟨rfl, rfl, rfl, rfl, rfl, rfl, rfl, rfl, rfl, rfl, rfl, trivial, trivial, ?_⟩
    obtain rfl := Option.some.inj h
    exact ⟨trivial, ⟨trivial, trivial, trivial⟩, rfl, rfl⟩
/-! halter/alarm.Due -/
def alarm_Due.l0 (a0 : (List (Int × Int))) (a1 : Int) : Nat → (List Int) → (List (Int × Int)) → Int → Option ((List Int) × (List (Int × Int)))
  | 0, _, _, _ => none
  | n + 1, x31, x32, x33 =>
    if x33 < (((List.length a0) : Nat) : Int) then
      if 0 ≤ x33 ∧ x33 < (((List.length a0) : Nat) : Int) then
        if (List.getD a0 (Int.toNat x33) ((0 : Int), (0 : Int))).2 ≤ a1 then
          if 0 + 1 ≤ 1 ∧ 0 = 0 ∧ (List.length x31) = (List.length x31) ∧ (((List.length x31) + (List.length (List.take 1 [(List.getD a0 (Int.toNat x33) ((0 : Int), (0 : Int))).1]))) * 8 ≤ 140737488355328 ∧ (List.length x31) + (List.length (List.take 1 [(List.getD a0 (Int.toNat x33) ((0 : Int), (0 : Int))).1])) ≤ 9223372036854775807) then
            alarm_Due.l0 a0 a1 n (x31 ++ (List.take 1 [(List.getD a0 (Int.toNat x33) ((0 : Int), (0 : Int))).1])) x32 (IntKind.wrap .i64 (x33 + (1 : Int)))
          else none
        else
          if 0 + 1 ≤ 1 ∧ 0 = 0 ∧ (List.length x32) = (List.length x32) ∧ (((List.length x32) + (List.length (List.take 1 [((List.getD a0 (Int.toNat x33) ((0 : Int), (0 : Int))).1, (List.getD a0 (Int.toNat x33) ((0 : Int), (0 : Int))).2)]))) * 16 ≤ 140737488355328 ∧ (List.length x32) + (List.length (List.take 1 [((List.getD a0 (Int.toNat x33) ((0 : Int), (0 : Int))).1, (List.getD a0 (Int.toNat x33) ((0 : Int), (0 : Int))).2)])) ≤ 9223372036854775807) then
            alarm_Due.l0 a0 a1 n x31 (x32 ++ (List.take 1 [((List.getD a0 (Int.toNat x33) ((0 : Int), (0 : Int))).1, (List.getD a0 (Int.toNat x33) ((0 : Int), (0 : Int))).2)])) (IntKind.wrap .i64 (x33 + (1 : Int)))
          else none
      else none
    else
      some (x31, x32)
def alarm_Due.l0_S (a0 : (List (Int × Int))) (a1 : Int) (x31 : List Int) (x32 : List (Int × Int)) (x33 : Int) : St := ⟨[.any, .v (.one (.sc (.int .i64 a1))), .any, .any, .any, .any, .any, .v (.one (.os 0 0 0 1 (List.length x31) none)), .v (.one (.os 1 0 0 2 (List.length x32) none)), .any, .any, .any, .any, .any, .any, .any, .any, .any, .any, .any, .v (.one (.fs (.pair (.int .i64) (.int .i64)) a0 false)), .v (.one (.sc (.int .i64 (((List.length a0) : Nat) : Int)))), .v (.one (.sc (.int .i64 x33))), .any, .any, .any, .any, .any, .any, .any, .any, .any, .any, .any, .any, .any, .any, .any, .any, .any, .any, .any], [.gro false (.int .i64) x31 3, .gro false (.pair (.int .i64) (.int .i64)) x32 45], 0⟩
def alarm_Due.l0_Q (a0 : (List (Int × Int))) (a1 : Int) (t : (List Int) × (List (Int × Int))) : Exit → St → Prop := fun e s => e = (.exit 0) ∧ s = ⟨[.any, .any, .any, .any, .any, .any, .any, .v (.one (.os 0 0 0 1 (List.length t.1) none)), .v (.one (.os 1 0 0 2 (List.length t.2) none)), .any, .any, .any, .any, .any, .any, .any, .any, .any, .any, .any, .any, .any, .any, .any, .any, .any, .any, .any, .any, .any, .any, .any, .any, .any, .any, .any, .any, .any, .any, .any, .any, .any], [.gro false (.int .i64) t.1 3, .gro false (.pair (.int .i64) (.int .i64)) t.2 45], 0⟩
theorem alarm_Due.l0_ok (a0 : (List (Int × Int))) (a1 : Int) : ∀ (n : Nat) (x31 : List Int) (x32 : List (Int × Int)) (x33 : Int) (r : (List Int) × (List (Int × Int))), alarm_Due.l0 a0 a1 n x31 x32 x33 = some r → TripN cfg (cpath (Tryd.f8.body.getD .skip) [1, 1, 1, 1, 0, 1, 0, 0]) n (alarm_Due.l0_S a0 a1 x31 x32 x33) (alarm_Due.l0_Q a0 a1 r) := by
  intro n
  induction n with
  | zero => intro x31 x32 x33 r h; cases h
  | succ n ih =>
    intro x31 x32 x33 r h
    rw [alarm_Due.l0] at h
    refine TripN.of_run cfg_ok (k := (.br (.br (.d .no (.d (.b false) (.adj [] (.adj [.keep [1, 7, 8, 20, 21, 22], .drop 2] .nil)))) (.d .no (.d (.b false) (.adj [] (.adj [.keep [1, 7, 8, 20, 21, 22], .drop 2] .nil))))) (.adj [.keep [7, 8], .drop 2] .nil))) (to_goal (q := (True) ∧ (((decide (x33 < (((List.length a0) : Nat) : Int))) = true → (0 ≤ x33 ∧ x33 < (((List.length a0) : Nat) : Int)) ∧ (True) ∧ (True) ∧ (True) ∧ (True) ∧ (((decide ((List.getD a0 (Int.toNat x33) ((0 : Int), (0 : Int))).2 ≤ a1)) = true → (True) ∧ (0 + 1 ≤ 1 ∧ 0 = 0 ∧ (List.length x31) = (List.length x31) ∧ (((List.length x31) + (List.length (List.take 1 [(List.getD a0 (Int.toNat x33) ((0 : Int), (0 : Int))).1]))) * 8 ≤ 140737488355328 ∧ (List.length x31) + (List.length (List.take 1 [(List.getD a0 (Int.toNat x33) ((0 : Int), (0 : Int))).1])) ≤ 9223372036854775807)) ∧ (True ∧ (True) ∧ (((True) ∧ (True) ∧ True) ∧ TripN cfg (cpath (Tryd.f8.body.getD .skip) [1, 1, 1, 1, 0, 1, 0, 0]) n (alarm_Due.l0_S a0 a1 (x31 ++ (List.take 1 [(List.getD a0 (Int.toNat x33) ((0 : Int), (0 : Int))).1])) x32 (IntKind.wrap .i64 (x33 + (1 : Int)))) (alarm_Due.l0_Q a0 a1 r)))) ∧ ((decide ((List.getD a0 (Int.toNat x33) ((0 : Int), (0 : Int))).2 ≤ a1)) = false → (True) ∧ (0 + 1 ≤ 1 ∧ 0 = 0 ∧ (List.length x32) = (List.length x32) ∧ (((List.length x32) + (List.length (List.take 1 [((List.getD a0 (Int.toNat x33) ((0 : Int), (0 : Int))).1, (List.getD a0 (Int.toNat x33) ((0 : Int), (0 : Int))).2)]))) * 16 ≤ 140737488355328 ∧ (List.length x32) + (List.length (List.take 1 [((List.getD a0 (Int.toNat x33) ((0 : Int), (0 : Int))).1, (List.getD a0 (Int.toNat x33) ((0 : Int), (0 : Int))).2)])) ≤ 9223372036854775807)) ∧ (True ∧ (True) ∧ (((True) ∧ (True) ∧ True) ∧ TripN cfg (cpath (Tryd.f8.body.getD .skip) [1, 1, 1, 1, 0, 1, 0, 0]) n (alarm_Due.l0_S a0 a1 x31 (x32 ++ (List.take 1 [((List.getD a0 (Int.toNat x33) ((0 : Int), (0 : Int))).1, (List.getD a0 (Int.toNat x33) ((0 : Int), (0 : Int))).2)])) (IntKind.wrap .i64 (x33 + (1 : Int)))) (alarm_Due.l0_Q a0 a1 r)))))) ∧ ((decide (x33 < (((List.length a0) : Nat) : Int))) = false → (((True) ∧ (True) ∧ True) ∧ alarm_Due.l0_Q a0 a1 r (.exit 0) ⟨[.any, .any, .any, .any, .any, .any, .any, .v (.one (.os 0 0 0 1 (List.length x31) none)), .v (.one (.os 1 0 0 2 (List.length x32) none)), .any, .any, .any, .any, .any, .any, .any, .any, .any, .any, .any, .any, .any, .any, .any, .any, .any, .any, .any, .any, .any, .any, .any, .any, .any, .any, .any, .any, .any, .any, .any, .any, .any], [.gro false (.int .i64) x31 3, .gro false (.pair (.int .i64) (.int .i64)) x32 45], 0⟩)))) (by kernel_rfl) ?_)
    refine ⟨trivial, ?_⟩
    refine ⟨fun b42 => ?_, fun b42 => ?_⟩
    · rw [if_pos (of_decide_eq_true b42)] at h
      obtain ⟨g46, h⟩ := of_guard h
      refine ⟨g46, ?_⟩
      refine ⟨trivial, trivial, trivial, trivial, ?_⟩
      refine ⟨fun b43 => ?_, fun b43 => ?_⟩
      · rw [if_pos (of_decide_eq_true b43)] at h
        refine ⟨trivial, ?_⟩
        obtain ⟨g44, h⟩ := of_guard h
        refine ⟨g44, ?_⟩
        refine ⟨trivial, trivial, ?_⟩
        exact ⟨⟨trivial, trivial, trivial⟩, ih (x31 ++ (List.take 1 [(List.getD a0 (Int.toNat x33) ((0 : Int), (0 : Int))).1])) x32 (IntKind.wrap .i64 (x33 + (1 : Int))) r h⟩
      · rw [if_neg (of_decide_eq_false b43)] at h
        refine ⟨trivial, ?_⟩
        obtain ⟨g45, h⟩ := of_guard h
        refine ⟨g45, ?_⟩
        refine ⟨trivial, trivial, ?_⟩
        exact ⟨⟨trivial, trivial, trivial⟩, ih x31 (x32 ++ (List.take 1 [((List.getD a0 (Int.toNat x33) ((0 : Int), (0 : Int))).1, (List.getD a0 (Int.toNat x33) ((0 : Int), (0 : Int))).2)])) (IntKind.wrap .i64 (x33 + (1 : Int))) r h⟩
    · rw [if_neg (of_decide_eq_false b42)] at h
      obtain rfl := Option.some.inj h
      exact ⟨⟨trivial, trivial, trivial⟩, rfl, rfl⟩
def alarm_Due.f (a0 : (List (Int × Int))) (a1 : Int) : Option ((List Int) × (List (Int × Int)) × (Option Int)) :=
  (alarm_Check.f a0).bind fun t1 =>
  if ¬ (t1 = none) then
    some (([] : List Int), ([] : List (Int × Int)), (some (22 : Int)))
  else
    (alarm_timed.f a1).bind fun t3 =>
    if ¬ (t3 = true) then
      some (([] : List Int), ([] : List (Int × Int)), (some (22 : Int)))
    else
      (alarm_Due.l0 a0 a1 FUEL ([] : List Int) ([] : List (Int × Int)) (0 : Int)).bind fun t41 =>
      some (t41.1, t41.2, none)
def alarm_Due.R (r : (List Int) × (List (Int × Int)) × (Option Int)) : Tm := .tup [.one (.fs (.int .i64) r.1 false), .one (.fs (.pair (.int .i64) (.int .i64)) r.2.1 false), .one (.err r.2.2)]
theorem alarm_Due.fun_ {a0 : (List (Int × Int))} {a1 : Int} {r : (List Int) × (List (Int × Int)) × (Option Int)} (h : alarm_Due.f a0 a1 = some r) : Fun cfg 8 [.one (.fs (.pair (.int .i64) (.int .i64)) a0 false), .one (.sc (.int .i64 a1))] [] (alarm_Due.R r) [] := by
  unfold alarm_Due.f at h
  refine fun_of_run cfg_ok (f := 8) (fn := Tryd.f8) Tryd.func8 rfl (by kernel_rfl) (rs := [.tmp 4, .tmp 5, .tmp 6]) rfl (nt := 42) rfl (l := fin) (k := (.call true [] ((Option Int)) alarm_Check.R (fun t1 => (.br (oT 4 (aE 2 (.adj [.co 0 true [(.int .i64)], .co 1 true [(.pair (.int .i64) (.int .i64))]] .nil))) (.one false (.call true [] (Bool) alarm_timed.R (fun t3 => (oF 2 (.br (aE 2 (.adj [.co 0 true [(.int .i64)], .co 1 true [(.pair (.int .i64) (.int .i64))]] .nil)) (aE 5 (.adj [.keep [1, 7, 8, 20, 21, 22], .nilGro 7 (.int .i64) 3, .nilGro 8 (.pair (.int .i64) (.int .i64)) 45] (.sub ((List Int) × (List (Int × Int))) (fun _ => (.exit 0)) (fun t41 => ⟨[.any, .any, .any, .any, .any, .any, .any, .v (.one (.os 0 0 0 1 (List.length t41.1) none)), .v (.one (.os 1 0 0 2 (List.length t41.2) none)), .any, .any, .any, .any, .any, .any, .any, .any, .any, .any, .any, .any, .any, .any, .any, .any, .any, .any, .any, .any, .any, .any, .any, .any, .any, .any, .any, .any, .any, .any, .any, .any, .any], [.gro false (.int .i64) t41.1 3, .gro false (.pair (.int .i64) (.int .i64)) t41.2 45], 0⟩) (fun t41 => (aE 2 (.adj [.co 0 true [], .co 1 true [], .drop 0] .nil))))))))))))))) (to_goal (q := (∃ t1 : (Option Int), (Fun cfg 13 [.one (.fs (.pair (.int .i64) (.int .i64)) a0 false)] [] (alarm_Check.R t1) [] ∧ True) ∧ (True) ∧ (((!(Option.isNone t1)) = false → ((!(Option.isNone t1)) = false ∧ (∃ t3 : Bool, (Fun cfg 15 [.one (.sc (.int .i64 a1))] [] (alarm_timed.R t3) [] ∧ True) ∧ ((!(Option.isNone t1)) = false ∧ ((!(Option.isNone t1)) = false ∧ (((!t3) = true → (True ∧ (True ∧ ((True) ∧ ((True) ∧ (True) ∧ True) ∧ (.tup [.one (.fs (.int .i64) ([] : List Int) false), .one (.fs (.pair (.int .i64) (.int .i64)) ([] : List (Int × Int)) false), .one (.err (some (22 : Int)))] : Tm) = alarm_Due.R r ∧ ([] : List Box) = [])))) ∧ ((!t3) = false → (True ∧ (True ∧ (True ∧ (True ∧ (True) ∧ (True ∧ (((True) ∧ (True) ∧ (True) ∧ True) ∧ (∃ t41 : (List Int) × (List (Int × Int)), Trip cfg (.loop (cpath (Tryd.f8.body.getD .skip) [1, 1, 1, 1, 0, 1, 0, 0])) ⟨[.any, .v (.one (.sc (.int .i64 a1))), .any, .any, .any, .any, .any, .v (.one (.os 0 0 0 1 0 none)), .v (.one (.os 1 0 0 2 0 none)), .any, .any, .any, .any, .any, .any, .any, .any, .any, .any, .any, .v (.one (.fs (.pair (.int .i64) (.int .i64)) a0 false)), .v (.one (.sc (.int .i64 (((List.length a0) : Nat) : Int)))), .v (.one (.sc (.int .i64 (0 : Int)))), .any, .any, .any, .any, .any, .any, .any, .any, .any, .any, .any, .any, .any, .any, .any, .any, .any, .any, .any], [.gro false (.int .i64) ([] : List Int) 3, .gro false (.pair (.int .i64) (.int .i64)) ([] : List (Int × Int)) 45], 0⟩ (fun e s => e = (.exit 0) ∧ s = ⟨[.any, .any, .any, .any, .any, .any, .any, .v (.one (.os 0 0 0 1 (List.length t41.1) none)), .v (.one (.os 1 0 0 2 (List.length t41.2) none)), .any, .any, .any, .any, .any, .any, .any, .any, .any, .any, .any, .any, .any, .any, .any, .any, .any, .any, .any, .any, .any, .any, .any, .any, .any, .any, .any, .any, .any, .any, .any, .any, .any], [.gro false (.int .i64) t41.1 3, .gro false (.pair (.int .i64) (.int .i64)) t41.2 45], 0⟩) ∧ (True ∧ (True ∧ ((True) ∧ ((((0 = 0 ∧ (List.length t41.1) = (List.length t41.1))) ∧ True) ∧ (((0 = 0 ∧ (List.length t41.2) = (List.length t41.2))) ∧ True) ∧ (True) ∧ True) ∧ (.tup [.one (.fs (.int .i64) t41.1 false), .one (.fs (.pair (.int .i64) (.int .i64)) t41.2 false), .one (.err none)] : Tm) = alarm_Due.R r ∧ ([] : List Box) = []))))))))))))))))) ∧ ((!(Option.isNone t1)) = true → ((!(Option.isNone t1)) = true ∧ ((!(Option.isNone t1)) = true ∧ ((!(Option.isNone t1)) = true ∧ (true = true ∧ (True ∧ (True ∧ ((True) ∧ ((True) ∧ (True) ∧ True) ∧ (.tup [.one (.fs (.int .i64) ([] : List Int) false), .one (.fs (.pair (.int .i64) (.int .i64)) ([] : List (Int × Int)) false), .one (.err (some (22 : Int)))] : Tm) = alarm_Due.R r ∧ ([] : List Box) = []))))))))))) (by kernel_rfl) ?_)
  obtain ⟨t1, ht1, h⟩ := of_bind h
  refine ⟨t1, ⟨alarm_Check.fun_ ht1, trivial⟩, ?_⟩
  refine ⟨trivial, ?_⟩
  refine ⟨fun b2 => ?_, fun b2 => ?_⟩
  · rw [if_neg (not_not_intro (none_t (not_f b2)))] at h
    refine ⟨b2, ?_⟩
    obtain ⟨t3, ht3, h⟩ := of_bind h
    refine ⟨t3, ⟨alarm_timed.fun_ ht3, trivial⟩, ?_⟩
    refine ⟨b2, ?_⟩
    refine ⟨b2, ?_⟩
    refine ⟨fun b4 => ?_, fun b4 => ?_⟩
    · rw [if_pos (ff (not_t b4))] at h
      refine ⟨trivial, trivial, ?_⟩
      obtain rfl := Option.some.inj h
      exact ⟨trivial, ⟨trivial, trivial, trivial⟩, rfl, rfl⟩
    · rw [if_neg (not_not_intro (not_f b4))] at h
      refine ⟨trivial, trivial, trivial, trivial, trivial, trivial, ?_⟩
      obtain ⟨t41, ht41, h⟩ := of_bind h
      refine ⟨⟨trivial, trivial, trivial, trivial⟩, t41, Trip.loop FUEL (alarm_Due.l0_ok a0 a1 FUEL ([] : List Int) ([] : List (Int × Int)) (0 : Int) t41 ht41), ?_⟩
      refine ⟨trivial, trivial, ?_⟩
      obtain rfl := Option.some.inj h
      exact ⟨trivial, ⟨⟨⟨rfl, rfl⟩, trivial⟩, ⟨⟨rfl, rfl⟩, trivial⟩, trivial, trivial⟩, rfl, rfl⟩
  · rw [if_pos (none_f (not_t b2))] at h
    refine ⟨b2, ?_⟩
    refine ⟨b2, ?_⟩
    refine ⟨b2, ?_⟩
    refine ⟨rfl, trivial, trivial, ?_⟩
    obtain rfl := Option.some.inj h
    exact ⟨trivial, ⟨trivial, trivial, trivial⟩, rfl, rfl⟩
/-! halter/halterlaw29.ints -/
def halterlaw29_ints.l0 (a0 : (List Int)) (a1 : (List Int)) : Nat → Int → Option ((Unit) ⊕ (Unit))
  | 0, _ => none
  | n + 1, x2 =>
    if x2 < (((List.length a0) : Nat) : Int) then
      if 0 ≤ x2 ∧ x2 < (((List.length a0) : Nat) : Int) then
        if 0 ≤ x2 ∧ x2 < (((List.length a1) : Nat) : Int) then
          if ¬ (List.getD a0 (Int.toNat x2) (0 : Int)) = (List.getD a1 (Int.toNat x2) (0 : Int)) then
            some (.inr ())
          else
            halterlaw29_ints.l0 a0 a1 n (IntKind.wrap .i64 (x2 + (1 : Int)))
        else none
      else none
    else
      some (.inl ())
def halterlaw29_ints.l0_S (a0 : (List Int)) (a1 : (List Int)) (x2 : Int) : St := ⟨[.v (.one (.fs (.int .i64) a0 false)), .v (.one (.fs (.int .i64) a1 false)), .any, .any, .any, .v (.one (.sc (.int .i64 x2))), .any, .any, .any, .any, .any, .any, .any, .any, .any, .any, .any, .any, .any, .any, .any, .any, .any, .any, .any, .any], [], 0⟩
def halterlaw29_ints.l0_Q (a0 : (List Int)) (a1 : (List Int)) : (Unit) ⊕ (Unit) → Exit → St → Prop
  | .inl t => fun e s => e = (.exit 0) ∧ s = ⟨[.any, .any, .any, .any, .any, .any, .any, .any, .any, .any, .any, .any, .any, .any, .any, .any, .any, .any, .any, .any, .any, .any, .any, .any, .any, .any], [], 0⟩
  | .inr t => fun e s => e = .ret ∧ s = ⟨[.any, .any, .any, .any, .v (.one (.sc (.bool false))), .any, .any, .any, .any, .any, .any, .any, .any, .any, .any, .any, .any, .any, .any, .any, .any, .any, .any, .any, .any, .any], [], 0⟩
theorem halterlaw29_ints.l0_ok (a0 : (List Int)) (a1 : (List Int)) : ∀ (n : Nat) (x2 : Int) (r : (Unit) ⊕ (Unit)), halterlaw29_ints.l0 a0 a1 n x2 = some r → TripN cfg (cpath (Tryd.f12.body.getD .skip) [1, 1, 0, 1, 0, 0]) n (halterlaw29_ints.l0_S a0 a1 x2) (halterlaw29_ints.l0_Q a0 a1 r) := by
  intro n
  induction n with
  | zero => intro x2 r h; cases h
  | succ n ih =>
    intro x2 r h
    rw [halterlaw29_ints.l0] at h
    refine TripN.of_run cfg_ok (k := (.br (.dr [(0, dN), (1, dN), (2, dN), (4, dN), (5, dN), (6, dN), (3, dN), (7, dN), (8, dN)] (.br (.adj [] (.adj [.keep [4], .drop 0] .nil)) (aE 2 (.adj [.keep [0, 1, 5], .drop 0] .nil)))) (.adj [.keep [], .drop 0] .nil))) (to_goal (q := (True) ∧ (True) ∧ (((decide (x2 < (((List.length a0) : Nat) : Int))) = true → (0 ≤ x2 ∧ x2 < (((List.length a0) : Nat) : Int)) ∧ (0 ≤ x2 ∧ x2 < (((List.length a1) : Nat) : Int)) ∧ (True) ∧ (True) ∧ (True) ∧ ((((List.getD a0 (Int.toNat x2) (0 : Int)) != (List.getD a1 (Int.toNat x2) (0 : Int))) = true → (True ∧ (((True) ∧ (True) ∧ True) ∧ halterlaw29_ints.l0_Q a0 a1 r .ret ⟨[.any, .any, .any, .any, .v (.one (.sc (.bool false))), .any, .any, .any, .any, .any, .any, .any, .any, .any, .any, .any, .any, .any, .any, .any, .any, .any, .any, .any, .any, .any], [], 0⟩))) ∧ (((List.getD a0 (Int.toNat x2) (0 : Int)) != (List.getD a1 (Int.toNat x2) (0 : Int))) = false → (True ∧ (True ∧ (True) ∧ (((True) ∧ (True) ∧ True) ∧ TripN cfg (cpath (Tryd.f12.body.getD .skip) [1, 1, 0, 1, 0, 0]) n (halterlaw29_ints.l0_S a0 a1 (IntKind.wrap .i64 (x2 + (1 : Int)))) (halterlaw29_ints.l0_Q a0 a1 r))))))) ∧ ((decide (x2 < (((List.length a0) : Nat) : Int))) = false → (((True) ∧ (True) ∧ True) ∧ halterlaw29_ints.l0_Q a0 a1 r (.exit 0) ⟨[.any, .any, .any, .any, .any, .any, .any, .any, .any, .any, .any, .any, .any, .any, .any, .any, .any, .any, .any, .any, .any, .any, .any, .any, .any, .any], [], 0⟩)))) (by kernel_rfl) ?_)
    refine ⟨trivial, trivial, ?_⟩
    refine ⟨fun b8 => ?_, fun b8 => ?_⟩
    · rw [if_pos (of_decide_eq_true b8)] at h
      obtain ⟨g9, h⟩ := of_guard h
      obtain ⟨g10, h⟩ := of_guard h
      refine ⟨g9, g10, trivial, trivial, trivial, ?_⟩
      refine ⟨fun b11 => ?_, fun b11 => ?_⟩
      · rw [if_pos (bne_t b11)] at h
        refine ⟨trivial, ?_⟩
        obtain rfl := Option.some.inj h
        exact ⟨⟨trivial, trivial, trivial⟩, rfl, rfl⟩
      · rw [if_neg (not_not_intro (bne_f b11))] at h
        refine ⟨trivial, trivial, trivial, ?_⟩
        exact ⟨⟨trivial, trivial, trivial⟩, ih (IntKind.wrap .i64 (x2 + (1 : Int))) r h⟩
    · rw [if_neg (of_decide_eq_false b8)] at h
      obtain rfl := Option.some.inj h
      exact ⟨⟨trivial, trivial, trivial⟩, rfl, rfl⟩
def halterlaw29_ints.f (a0 : (List Int)) (a1 : (List Int)) : Option Bool :=
  if ¬ (((List.length a0) : Nat) : Int) = (((List.length a1) : Nat) : Int) then
    some false
  else
    (halterlaw29_ints.l0 a0 a1 FUEL (0 : Int)).bind fun t7 =>
    match t7 with
    | .inl t12 =>
      some true
    | .inr t13 =>
      some false
def halterlaw29_ints.R (r : Bool) : Tm := .v (.one (.sc (.bool r)))
theorem halterlaw29_ints.fun_ {a0 : (List Int)} {a1 : (List Int)} {r : Bool} (h : halterlaw29_ints.f a0 a1 = some r) : Fun cfg 12 [.one (.fs (.int .i64) a0 false), .one (.fs (.int .i64) a1 false)] [] (halterlaw29_ints.R r) [] := by
  unfold halterlaw29_ints.f at h
  refine fun_of_run cfg_ok (f := 12) (fn := Tryd.f12) Tryd.func12 rfl (by kernel_rfl) (rs := [.tmp 4]) rfl (nt := 26) rfl (l := fin) (k := (.br (aE 3 .nil) (aE 3 (.adj [.keep [0, 1, 5]] (.alt (.sub (Unit) (fun _ => (.exit 0)) (fun t12 => ⟨[.any, .any, .any, .any, .any, .any, .any, .any, .any, .any, .any, .any, .any, .any, .any, .any, .any, .any, .any, .any, .any, .any, .any, .any, .any, .any], [], 0⟩) (fun t12 => (aE 3 .nil))) (.sub (Unit) (fun _ => .ret) (fun t13 => ⟨[.any, .any, .any, .any, .v (.one (.sc (.bool false))), .any, .any, .any, .any, .any, .any, .any, .any, .any, .any, .any, .any, .any, .any, .any, .any, .any, .any, .any, .any, .any], [], 0⟩) (fun t13 => (.adj [] .nil)))))))) (to_goal (q := (True) ∧ (True) ∧ (True) ∧ ((((((List.length a0) : Nat) : Int) != (((List.length a1) : Nat) : Int)) = true → (True ∧ (True ∧ ((True) ∧ (True) ∧ (.v (.one (.sc (.bool false))) : Tm) = halterlaw29_ints.R r ∧ ([] : List Box) = [])))) ∧ (((((List.length a0) : Nat) : Int) != (((List.length a1) : Nat) : Int)) = false → (True ∧ (True ∧ (True ∧ (((True) ∧ True) ∧ ((∃ t12 : Unit, Trip cfg (.loop (cpath (Tryd.f12.body.getD .skip) [1, 1, 0, 1, 0, 0])) ⟨[.v (.one (.fs (.int .i64) a0 false)), .v (.one (.fs (.int .i64) a1 false)), .any, .any, .any, .v (.one (.sc (.int .i64 (0 : Int)))), .any, .any, .any, .any, .any, .any, .any, .any, .any, .any, .any, .any, .any, .any, .any, .any, .any, .any, .any, .any], [], 0⟩ (fun e s => e = (.exit 0) ∧ s = ⟨[.any, .any, .any, .any, .any, .any, .any, .any, .any, .any, .any, .any, .any, .any, .any, .any, .any, .any, .any, .any, .any, .any, .any, .any, .any, .any], [], 0⟩) ∧ (True ∧ (True ∧ ((True) ∧ (True) ∧ (.v (.one (.sc (.bool true))) : Tm) = halterlaw29_ints.R r ∧ ([] : List Box) = [])))) ∨ (∃ t13 : Unit, Trip cfg (.loop (cpath (Tryd.f12.body.getD .skip) [1, 1, 0, 1, 0, 0])) ⟨[.v (.one (.fs (.int .i64) a0 false)), .v (.one (.fs (.int .i64) a1 false)), .any, .any, .any, .v (.one (.sc (.int .i64 (0 : Int)))), .any, .any, .any, .any, .any, .any, .any, .any, .any, .any, .any, .any, .any, .any, .any, .any, .any, .any, .any, .any], [], 0⟩ (fun e s => e = .ret ∧ s = ⟨[.any, .any, .any, .any, .v (.one (.sc (.bool false))), .any, .any, .any, .any, .any, .any, .any, .any, .any, .any, .any, .any, .any, .any, .any, .any, .any, .any, .any, .any, .any], [], 0⟩) ∧ ((True) ∧ (True) ∧ (.v (.one (.sc (.bool false))) : Tm) = halterlaw29_ints.R r ∧ ([] : List Box) = [])))))))))) (by kernel_rfl) ?_)
  refine ⟨trivial, trivial, trivial, ?_⟩
  refine ⟨fun b1 => ?_, fun b1 => ?_⟩
  · rw [if_pos (bne_t b1)] at h
    refine ⟨trivial, trivial, ?_⟩
    obtain rfl := Option.some.inj h
    exact ⟨trivial, trivial, rfl, rfl⟩
  · rw [if_neg (not_not_intro (bne_f b1))] at h
    refine ⟨trivial, trivial, trivial, ?_⟩
    obtain ⟨t7, ht7, h⟩ := of_bind h
    refine ⟨⟨trivial, trivial⟩, ?_⟩
    rcases t7 with t12 | t13
    · dsimp only at h
      left
      refine ⟨t12, Trip.loop FUEL (halterlaw29_ints.l0_ok a0 a1 FUEL (0 : Int) (.inl t12) ht7), ?_⟩
      refine ⟨trivial, trivial, ?_⟩
      obtain rfl := Option.some.inj h
      exact ⟨trivial, trivial, rfl, rfl⟩
    · dsimp only at h
      right
      refine ⟨t13, Trip.loop FUEL (halterlaw29_ints.l0_ok a0 a1 FUEL (0 : Int) (.inr t13) ht7), ?_⟩
      obtain rfl := Option.some.inj h
      exact ⟨trivial, trivial, rfl, rfl⟩
/-! halter/halterlaw29.sure -/
def halterlaw29_sure.f : Option Bool :=
  (alarm_Set.f ([] : List (Int × Int)) (3 : Int) (5 : Int) (3 : Int)).bind fun t1 =>
  (alarm_Set.f t1.1 (3 : Int) (6 : Int) (9 : Int)).bind fun t2 =>
  (alarm_Due.f t1.1 (8 : Int)).bind fun t3 =>
  if t1.2.2 = none then
    if t2.2.2 = none then
      if t3.2.2 = none then
        if t1.2.1 = (0 : Int) then
          if t2.2.1 = (2 : Int) then
            if (((List.length t2.1) : Nat) : Int) = (1 : Int) then
              if 0 ≤ (0 : Int) ∧ (0 : Int) < (((List.length t2.1) : Nat) : Int) then
                if (List.getD t2.1 0 ((0 : Int), (0 : Int))).2 = (15 : Int) then
                  (halterlaw29_ints.f t3.1 [(3 : Int)]).bind fun t11 =>
                  if t11 = true then
                    some ((((List.length t3.2.1) : Nat) : Int) == (0 : Int))
                  else
                    some false
                else
                  some false
              else none
            else
              some false
          else
            some false
        else
          some false
      else
        some false
    else
      some false
  else
    some false
def halterlaw29_sure.R (r : Bool) : Tm := .v (.one (.sc (.bool r)))
theorem halterlaw29_sure.fun_ {r : Bool} (h : halterlaw29_sure.f = some r) : Fun cfg 4 [] [] (halterlaw29_sure.R r) [] := by
  unfold halterlaw29_sure.f at h
  refine fun_of_run cfg_ok (f := 4) (fn := Tryd.f4) Tryd.func4 rfl (by kernel_rfl) (rs := [.tmp 0]) rfl (nt := 67) rfl (l := fin) (k := (.call true [(.pair (.int .i64) (.int .i64))] ((List (Int × Int)) × Int × (Option Int)) alarm_Set.R (fun t1 => (.call true [] ((List (Int × Int)) × Int × (Option Int)) alarm_Set.R (fun t2 => (.call true [] ((List Int) × (List (Int × Int)) × (Option Int)) alarm_Due.R (fun t3 => (.br (oT 2 (.br (oT 2 (.br (oT 2 (.br (oT 2 (.br (oT 3 (.br (oT 5 (.br (.one true (.d .no (.one true (.call true [] (Bool) halterlaw29_ints.R (fun t11 => (.one true (.br (oT 3 (.adj [] (.adj [.drop 0] .nil))) (oF 3 (.adj [] (.adj [.drop 0] .nil)))))))))) (oF 7 (aE 2 .nil)))) (oF 13 (aE 2 .nil)))) (oF 17 (aE 2 .nil)))) (oF 20 (aE 2 .nil)))) (oF 23 (aE 2 .nil)))) (oF 26 (aE 2 .nil)))) (oF 29 (aE 2 .nil)))))))))) (to_goal (q := (∃ t1 : (List (Int × Int)) × Int × (Option Int), (Fun cfg 6 [.one (.fs (.pair (.int .i64) (.int .i64)) ([] : List (Int × Int)) false), .one (.sc (.int .i64 (3 : Int))), .one (.sc (.int .i64 (5 : Int))), .one (.sc (.int .i64 (3 : Int)))] [] (alarm_Set.R t1) [] ∧ True) ∧ (∃ t2 : (List (Int × Int)) × Int × (Option Int), (Fun cfg 6 [.one (.fs (.pair (.int .i64) (.int .i64)) t1.1 false), .one (.sc (.int .i64 (3 : Int))), .one (.sc (.int .i64 (6 : Int))), .one (.sc (.int .i64 (9 : Int)))] [] (alarm_Set.R t2) [] ∧ True) ∧ (∃ t3 : (List Int) × (List (Int × Int)) × (Option Int), (Fun cfg 8 [.one (.fs (.pair (.int .i64) (.int .i64)) t1.1 false), .one (.sc (.int .i64 (8 : Int)))] [] (alarm_Due.R t3) [] ∧ True) ∧ (True) ∧ (((Option.isNone (z2 t1)) = true → ((Option.isNone (z2 t1)) = true ∧ (True) ∧ ((Option.isNone (z2 t1)) = true ∧ (((Option.isNone (z2 t2)) = true → ((Option.isNone (z2 t2)) = true ∧ (True) ∧ ((Option.isNone (z2 t2)) = true ∧ (((Option.isNone (z2 t3)) = true → ((Option.isNone (z2 t3)) = true ∧ (True) ∧ ((Option.isNone (z2 t3)) = true ∧ (((t1.2.1 == (0 : Int)) = true → ((t1.2.1 == (0 : Int)) = true ∧ (True) ∧ ((t1.2.1 == (0 : Int)) = true ∧ (((t2.2.1 == (2 : Int)) = true → ((t2.2.1 == (2 : Int)) = true ∧ (True) ∧ ((t2.2.1 == (2 : Int)) = true ∧ (True) ∧ ((t2.2.1 == (2 : Int)) = true ∧ ((((((List.length t2.1) : Nat) : Int) == (1 : Int)) = true → (((((List.length t2.1) : Nat) : Int) == (1 : Int)) = true ∧ (0 ≤ (0 : Int) ∧ (0 : Int) < (((List.length t2.1) : Nat) : Int)) ∧ (((((List.length t2.1) : Nat) : Int) == (1 : Int)) = true ∧ (((((List.length t2.1) : Nat) : Int) == (1 : Int)) = true ∧ (True) ∧ (((((List.length t2.1) : Nat) : Int) == (1 : Int)) = true ∧ (True) ∧ (((((List.length t2.1) : Nat) : Int) == (1 : Int)) = true ∧ ((((List.getD t2.1 0 ((0 : Int), (0 : Int))).2 == (15 : Int)) = true → (((List.getD t2.1 0 ((0 : Int), (0 : Int))).2 == (15 : Int)) = true ∧ (((List.getD t2.1 0 ((0 : Int), (0 : Int))).2 == (15 : Int)) = true ∧ (∃ t11 : Bool, ((0 = 0 ∧ 1 = 1) ∧ Fun cfg 12 [.one (.fs (.int .i64) t3.1 false), .one (.fs (.int .i64) [(3 : Int)] false)] [] (halterlaw29_ints.R t11) [] ∧ True) ∧ (((List.getD t2.1 0 ((0 : Int), (0 : Int))).2 == (15 : Int)) = true ∧ ((t11 = true → (t11 = true ∧ (True) ∧ (t11 = true ∧ (True) ∧ (t11 = true ∧ (True ∧ ((True) ∧ ((True) ∧ True) ∧ (.v (.one (.sc (.bool ((((List.length t3.2.1) : Nat) : Int) == (0 : Int))))) : Tm) = halterlaw29_sure.R r ∧ ([] : List Box) = [])))))) ∧ (t11 = false → (t11 = false ∧ (t11 = false ∧ (t11 = false ∧ (True ∧ ((True) ∧ ((True) ∧ True) ∧ (.v (.one (.sc (.bool false))) : Tm) = halterlaw29_sure.R r ∧ ([] : List Box) = [])))))))))))) ∧ (((List.getD t2.1 0 ((0 : Int), (0 : Int))).2 == (15 : Int)) = false → (((List.getD t2.1 0 ((0 : Int), (0 : Int))).2 == (15 : Int)) = false ∧ (((List.getD t2.1 0 ((0 : Int), (0 : Int))).2 == (15 : Int)) = false ∧ (((List.getD t2.1 0 ((0 : Int), (0 : Int))).2 == (15 : Int)) = false ∧ (false = false ∧ (false = false ∧ (false = false ∧ (false = false ∧ (True ∧ ((True) ∧ (True) ∧ (.v (.one (.sc (.bool false))) : Tm) = halterlaw29_sure.R r ∧ ([] : List Box) = []))))))))))))))))) ∧ (((((List.length t2.1) : Nat) : Int) == (1 : Int)) = false → (((((List.length t2.1) : Nat) : Int) == (1 : Int)) = false ∧ (((((List.length t2.1) : Nat) : Int) == (1 : Int)) = false ∧ (((((List.length t2.1) : Nat) : Int) == (1 : Int)) = false ∧ (((((List.length t2.1) : Nat) : Int) == (1 : Int)) = false ∧ (((((List.length t2.1) : Nat) : Int) == (1 : Int)) = false ∧ (false = false ∧ (false = false ∧ (false = false ∧ (false = false ∧ (false = false ∧ (false = false ∧ (false = false ∧ (false = false ∧ (True ∧ ((True) ∧ (True) ∧ (.v (.one (.sc (.bool false))) : Tm) = halterlaw29_sure.R r ∧ ([] : List Box) = []))))))))))))))))))))) ∧ ((t2.2.1 == (2 : Int)) = false → ((t2.2.1 == (2 : Int)) = false ∧ ((t2.2.1 == (2 : Int)) = false ∧ ((t2.2.1 == (2 : Int)) = false ∧ (false = false ∧ (false = false ∧ (false = false ∧ (false = false ∧ (false = false ∧ (false = false ∧ (false = false ∧ (false = false ∧ (false = false ∧ (false = false ∧ (false = false ∧ (false = false ∧ (false = false ∧ (false = false ∧ (True ∧ ((True) ∧ (True) ∧ (.v (.one (.sc (.bool false))) : Tm) = halterlaw29_sure.R r ∧ ([] : List Box) = [])))))))))))))))))))))))) ∧ ((t1.2.1 == (0 : Int)) = false → ((t1.2.1 == (0 : Int)) = false ∧ ((t1.2.1 == (0 : Int)) = false ∧ (false = false ∧ (false = false ∧ (false = false ∧ (false = false ∧ (false = false ∧ (false = false ∧ (false = false ∧ (false = false ∧ (false = false ∧ (false = false ∧ (false = false ∧ (false = false ∧ (false = false ∧ (false = false ∧ (false = false ∧ (false = false ∧ (false = false ∧ (false = false ∧ (True ∧ ((True) ∧ (True) ∧ (.v (.one (.sc (.bool false))) : Tm) = halterlaw29_sure.R r ∧ ([] : List Box) = []))))))))))))))))))))))))))) ∧ ((Option.isNone (z2 t3)) = false → ((Option.isNone (z2 t3)) = false ∧ ((Option.isNone (z2 t3)) = false ∧ (false = false ∧ (false = false ∧ (false = false ∧ (false = false ∧ (false = false ∧ (false = false ∧ (false = false ∧ (false = false ∧ (false = false ∧ (false = false ∧ (false = false ∧ (false = false ∧ (false = false ∧ (false = false ∧ (false = false ∧ (false = false ∧ (false = false ∧ (false = false ∧ (false = false ∧ (false = false ∧ (false = false ∧ (True ∧ ((True) ∧ (True) ∧ (.v (.one (.sc (.bool false))) : Tm) = halterlaw29_sure.R r ∧ ([] : List Box) = [])))))))))))))))))))))))))))))) ∧ ((Option.isNone (z2 t2)) = false → ((Option.isNone (z2 t2)) = false ∧ ((Option.isNone (z2 t2)) = false ∧ (false = false ∧ (false = false ∧ (false = false ∧ (false = false ∧ (false = false ∧ (false = false ∧ (false = false ∧ (false = false ∧ (false = false ∧ (false = false ∧ (false = false ∧ (false = false ∧ (false = false ∧ (false = false ∧ (false = false ∧ (false = false ∧ (false = false ∧ (false = false ∧ (false = false ∧ (false = false ∧ (false = false ∧ (false = false ∧ (false = false ∧ (false = false ∧ (True ∧ ((True) ∧ (True) ∧ (.v (.one (.sc (.bool false))) : Tm) = halterlaw29_sure.R r ∧ ([] : List Box) = []))))))))))))))))))))))))))))))))) ∧ ((Option.isNone (z2 t1)) = false → ((Option.isNone (z2 t1)) = false ∧ ((Option.isNone (z2 t1)) = false ∧ (false = false ∧ (false = false ∧ (false = false ∧ (false = false ∧ (false = false ∧ (false = false ∧ (false = false ∧ (false = false ∧ (false = false ∧ (false = false ∧ (false = false ∧ (false = false ∧ (false = false ∧ (false = false ∧ (false = false ∧ (false = false ∧ (false = false ∧ (false = false ∧ (false = false ∧ (false = false ∧ (false = false ∧ (false = false ∧ (false = false ∧ (false = false ∧ (false = false ∧ (false = false ∧ (false = false ∧ (True ∧ ((True) ∧ (True) ∧ (.v (.one (.sc (.bool false))) : Tm) = halterlaw29_sure.R r ∧ ([] : List Box) = []))))))))))))))))))))))))))))))))))))) (by kernel_rfl) ?_)
  obtain ⟨t1, ht1, h⟩ := of_bind h
  refine ⟨t1, ⟨alarm_Set.fun_ ht1, trivial⟩, ?_⟩
  obtain ⟨t2, ht2, h⟩ := of_bind h
  refine ⟨t2, ⟨alarm_Set.fun_ ht2, trivial⟩, ?_⟩
  obtain ⟨t3, ht3, h⟩ := of_bind h
  refine ⟨t3, ⟨alarm_Due.fun_ ht3, trivial⟩, ?_⟩
  refine ⟨trivial, ?_⟩
  refine ⟨fun b4 => ?_, fun b4 => ?_⟩
  · rw [if_pos (none_t b4)] at h
    refine ⟨b4, ?_⟩
    refine ⟨trivial, ?_⟩
    refine ⟨b4, ?_⟩
    refine ⟨fun b5 => ?_, fun b5 => ?_⟩
    · rw [if_pos (none_t b5)] at h
      refine ⟨b5, ?_⟩
      refine ⟨trivial, ?_⟩
      refine ⟨b5, ?_⟩
      refine ⟨fun b6 => ?_, fun b6 => ?_⟩
      · rw [if_pos (none_t b6)] at h
        refine ⟨b6, ?_⟩
        refine ⟨trivial, ?_⟩
        refine ⟨b6, ?_⟩
        refine ⟨fun b7 => ?_, fun b7 => ?_⟩
        · rw [if_pos (beq_t b7)] at h
          refine ⟨b7, ?_⟩
          refine ⟨trivial, ?_⟩
          refine ⟨b7, ?_⟩
          refine ⟨fun b8 => ?_, fun b8 => ?_⟩
          · rw [if_pos (beq_t b8)] at h
            refine ⟨b8, ?_⟩
            refine ⟨trivial, ?_⟩
            refine ⟨b8, ?_⟩
            refine ⟨trivial, ?_⟩
            refine ⟨b8, ?_⟩
            refine ⟨fun b9 => ?_, fun b9 => ?_⟩
            · rw [if_pos (beq_t b9)] at h
              refine ⟨b9, ?_⟩
              obtain ⟨g13, h⟩ := of_guard h
              refine ⟨g13, ?_⟩
              refine ⟨b9, ?_⟩
              refine ⟨b9, ?_⟩
              refine ⟨trivial, ?_⟩
              refine ⟨b9, ?_⟩
              refine ⟨trivial, ?_⟩
              refine ⟨b9, ?_⟩
              refine ⟨fun b10 => ?_, fun b10 => ?_⟩
              · rw [if_pos (beq_t b10)] at h
                refine ⟨b10, ?_⟩
                refine ⟨b10, ?_⟩
                obtain ⟨t11, ht11, h⟩ := of_bind h
                refine ⟨t11, ⟨⟨rfl, rfl⟩, halterlaw29_ints.fun_ ht11, trivial⟩, ?_⟩
                refine ⟨b10, ?_⟩
                refine ⟨fun b12 => ?_, fun b12 => ?_⟩
                · rw [if_pos b12] at h
                  refine ⟨b12, ?_⟩
                  refine ⟨trivial, ?_⟩
                  refine ⟨b12, ?_⟩
                  refine ⟨trivial, ?_⟩
                  refine ⟨b12, ?_⟩
                  refine ⟨trivial, ?_⟩
                  obtain rfl := Option.some.inj h
                  exact ⟨trivial, ⟨trivial, trivial⟩, rfl, rfl⟩
                · rw [if_neg (ff b12)] at h
                  refine ⟨b12, ?_⟩
                  refine ⟨b12, ?_⟩
                  refine ⟨b12, ?_⟩
                  refine ⟨trivial, ?_⟩
                  obtain rfl := Option.some.inj h
                  exact ⟨trivial, ⟨trivial, trivial⟩, rfl, rfl⟩
              · rw [if_neg (beq_f b10)] at h
                refine ⟨b10, ?_⟩
                refine ⟨b10, ?_⟩
                refine ⟨b10, ?_⟩
                refine ⟨rfl, rfl, rfl, rfl, trivial, ?_⟩
                obtain rfl := Option.some.inj h
                exact ⟨trivial, trivial, rfl, rfl⟩
            · rw [if_neg (beq_f b9)] at h
              refine ⟨b9, ?_⟩
              refine ⟨b9, ?_⟩
              refine ⟨b9, ?_⟩
              refine ⟨b9, ?_⟩
              refine ⟨b9, ?_⟩
              refine ⟨rfl, rfl, rfl, rfl, rfl, rfl, rfl, rfl, trivial, ?_⟩
              obtain rfl := Option.some.inj h
              exact ⟨trivial, trivial, rfl, rfl⟩
          · rw [if_neg (beq_f b8)] at h
            refine ⟨b8, ?_⟩
            refine ⟨b8, ?_⟩
            refine ⟨b8, ?_⟩
            refine ⟨rfl, rfl, rfl, rfl, rfl, rfl, rfl, rfl, rfl, rfl, rfl, rfl, rfl, rfl, trivial, ?_⟩
            obtain rfl := Option.some.inj h
            exact ⟨trivial, trivial, rfl, rfl⟩
        · rw [if_neg (beq_f b7)] at h
          refine ⟨b7, ?_⟩
          refine ⟨b7, ?_⟩
          refine ⟨rfl, rfl, rfl, rfl, rfl, rfl, rfl, rfl, rfl, rfl, rfl, rfl, rfl, rfl, rfl, rfl, rfl, rfl, trivial, ?_⟩
          obtain rfl := Option.some.inj h
          exact ⟨trivial, trivial, rfl, rfl⟩
      · rw [if_neg (none_f b6)] at h
        refine ⟨b6, ?_⟩
        refine ⟨b6, ?_⟩
        refine ⟨rfl, rfl, rfl, rfl, rfl, rfl, rfl, rfl, rfl, rfl, rfl, rfl, rfl, rfl, rfl, rfl, rfl, rfl, rfl, rfl, rfl, trivial, ?_⟩
        obtain rfl := Option.some.inj h
        exact ⟨trivial, trivial, rfl, rfl⟩
    · rw [if_neg (none_f b5)] at h
      refine ⟨b5, ?_⟩
      refine ⟨b5, ?_⟩
      refine ⟨rfl, rfl, rfl, rfl, rfl, rfl, rfl, rfl, rfl, rfl, rfl, rfl, rfl, rfl, rfl, rfl, rfl, rfl, rfl, rfl, rfl, rfl, rfl, rfl, trivial, ?_⟩
      obtain rfl := Option.some.inj h
      exact ⟨trivial, trivial, rfl, rfl⟩
  · rw [if_neg (none_f b4)] at h
    refine ⟨b4, ?_⟩
    refine ⟨b4, ?_⟩
    refine ⟨rfl, rfl, rfl, rfl, rfl, rfl, rfl, rfl, rfl, rfl, rfl, rfl, rfl, rfl, rfl, rfl, rfl, rfl, rfl, rfl, rfl, rfl, rfl, rfl, rfl, rfl, rfl, trivial, ?_⟩
    obtain rfl := Option.some.inj h
    exact ⟨trivial, trivial, rfl, rfl⟩
/-! halter/halterlaw29.give -/
def halterlaw29_give.l0 (a0 : (List (Int × Int))) : Nat → (List (Int × Int)) → Int → Option (List (Int × Int))
  | 0, _, _ => none
  | n + 1, x9, x10 =>
    if x10 < (((List.length a0) : Nat) : Int) then
      if 0 ≤ x10 ∧ x10 < (((List.length a0) : Nat) : Int) then
        if 0 + 1 ≤ 1 ∧ 0 = 0 ∧ (List.length x9) = (List.length x9) ∧ (((List.length x9) + (List.length (List.take 1 [((List.getD a0 (Int.toNat x10) ((0 : Int), (0 : Int))).1, (List.getD a0 (Int.toNat x10) ((0 : Int), (0 : Int))).2)]))) * 16 ≤ 140737488355328 ∧ (List.length x9) + (List.length (List.take 1 [((List.getD a0 (Int.toNat x10) ((0 : Int), (0 : Int))).1, (List.getD a0 (Int.toNat x10) ((0 : Int), (0 : Int))).2)])) ≤ 9223372036854775807) then
          halterlaw29_give.l0 a0 n (x9 ++ (List.take 1 [((List.getD a0 (Int.toNat x10) ((0 : Int), (0 : Int))).1, (List.getD a0 (Int.toNat x10) ((0 : Int), (0 : Int))).2)])) (IntKind.wrap .i64 (x10 + (1 : Int)))
        else none
      else none
    else
      some x9
def halterlaw29_give.l0_S (a0 : (List (Int × Int))) (x9 : List (Int × Int)) (x10 : Int) : St := ⟨[.v (.one (.fs (.pair (.int .i64) (.int .i64)) a0 false)), .any, .any, .v (.one (.os 0 0 0 2 (List.length x9) none)), .v (.one (.sc (.int .i64 x10))), .any, .any, .any, .any, .any, .any, .any, .any, .any, .any, .any, .any, .any, .any], [.gro false (.pair (.int .i64) (.int .i64)) x9 45], 0⟩
def halterlaw29_give.l0_Q (a0 : (List (Int × Int))) (t : (List (Int × Int))) : Exit → St → Prop := fun e s => e = (.exit 0) ∧ s = ⟨[.any, .any, .any, .v (.one (.os 0 0 0 2 (List.length t) none)), .any, .any, .any, .any, .any, .any, .any, .any, .any, .any, .any, .any, .any, .any, .any], [.gro false (.pair (.int .i64) (.int .i64)) t 45], 0⟩
theorem halterlaw29_give.l0_ok (a0 : (List (Int × Int))) : ∀ (n : Nat) (x9 : List (Int × Int)) (x10 : Int) (r : (List (Int × Int))), halterlaw29_give.l0 a0 n x9 x10 = some r → TripN cfg (cpath (Tryd.f5.body.getD .skip) [1, 1, 0, 1, 0, 0]) n (halterlaw29_give.l0_S a0 x9 x10) (halterlaw29_give.l0_Q a0 r) := by
  intro n
  induction n with
  | zero => intro x9 x10 r h; cases h
  | succ n ih =>
    intro x9 x10 r h
    rw [halterlaw29_give.l0] at h
    refine TripN.of_run cfg_ok (k := (.br (.d .no (.d (.b false) (.adj [] (.adj [.keep [0, 3, 4], .drop 1] .nil)))) (.adj [.keep [3], .drop 1] .nil))) (to_goal (q := (True) ∧ (True) ∧ (((decide (x10 < (((List.length a0) : Nat) : Int))) = true → (0 ≤ x10 ∧ x10 < (((List.length a0) : Nat) : Int)) ∧ (True) ∧ (0 + 1 ≤ 1 ∧ 0 = 0 ∧ (List.length x9) = (List.length x9) ∧ (((List.length x9) + (List.length (List.take 1 [((List.getD a0 (Int.toNat x10) ((0 : Int), (0 : Int))).1, (List.getD a0 (Int.toNat x10) ((0 : Int), (0 : Int))).2)]))) * 16 ≤ 140737488355328 ∧ (List.length x9) + (List.length (List.take 1 [((List.getD a0 (Int.toNat x10) ((0 : Int), (0 : Int))).1, (List.getD a0 (Int.toNat x10) ((0 : Int), (0 : Int))).2)])) ≤ 9223372036854775807)) ∧ (True ∧ (True) ∧ (((True) ∧ (True) ∧ True) ∧ TripN cfg (cpath (Tryd.f5.body.getD .skip) [1, 1, 0, 1, 0, 0]) n (halterlaw29_give.l0_S a0 (x9 ++ (List.take 1 [((List.getD a0 (Int.toNat x10) ((0 : Int), (0 : Int))).1, (List.getD a0 (Int.toNat x10) ((0 : Int), (0 : Int))).2)])) (IntKind.wrap .i64 (x10 + (1 : Int)))) (halterlaw29_give.l0_Q a0 r)))) ∧ ((decide (x10 < (((List.length a0) : Nat) : Int))) = false → (((True) ∧ (True) ∧ True) ∧ halterlaw29_give.l0_Q a0 r (.exit 0) ⟨[.any, .any, .any, .v (.one (.os 0 0 0 2 (List.length x9) none)), .any, .any, .any, .any, .any, .any, .any, .any, .any, .any, .any, .any, .any, .any, .any], [.gro false (.pair (.int .i64) (.int .i64)) x9 45], 0⟩)))) (by kernel_rfl) ?_)
    refine ⟨trivial, trivial, ?_⟩
    refine ⟨fun b16 => ?_, fun b16 => ?_⟩
    · rw [if_pos (of_decide_eq_true b16)] at h
      obtain ⟨g18, h⟩ := of_guard h
      refine ⟨g18, ?_⟩
      refine ⟨trivial, ?_⟩
      obtain ⟨g17, h⟩ := of_guard h
      refine ⟨g17, ?_⟩
      refine ⟨trivial, trivial, ?_⟩
      exact ⟨⟨trivial, trivial, trivial⟩, ih (x9 ++ (List.take 1 [((List.getD a0 (Int.toNat x10) ((0 : Int), (0 : Int))).1, (List.getD a0 (Int.toNat x10) ((0 : Int), (0 : Int))).2)])) (IntKind.wrap .i64 (x10 + (1 : Int))) r h⟩
    · rw [if_neg (of_decide_eq_false b16)] at h
      obtain rfl := Option.some.inj h
      exact ⟨⟨trivial, trivial, trivial⟩, rfl, rfl⟩
def halterlaw29_give.f (a0 : (List (Int × Int))) : Option (List (Int × Int)) :=
  (halterlaw29_give.l0 a0 FUEL ([] : List (Int × Int)) (0 : Int)).bind fun t15 =>
  some t15
def halterlaw29_give.R (r : (List (Int × Int))) : Tm := .v (.one (.fs (.pair (.int .i64) (.int .i64)) r false))
theorem halterlaw29_give.fun_ {a0 : (List (Int × Int))} {r : (List (Int × Int))} (h : halterlaw29_give.f a0 = some r) : Fun cfg 5 [.one (.fs (.pair (.int .i64) (.int .i64)) a0 false)] [] (halterlaw29_give.R r) [] := by
  unfold halterlaw29_give.f at h
  refine fun_of_run cfg_ok (f := 5) (fn := Tryd.f5) Tryd.func5 rfl (by kernel_rfl) (rs := [.tmp 2]) rfl (nt := 19) rfl (l := fin) (k := (aE 4 (.adj [.keep [0, 3, 4], .nilGro 3 (.pair (.int .i64) (.int .i64)) 45] (.sub ((List (Int × Int))) (fun _ => (.exit 0)) (fun t15 => ⟨[.any, .any, .any, .v (.one (.os 0 0 0 2 (List.length t15) none)), .any, .any, .any, .any, .any, .any, .any, .any, .any, .any, .any, .any, .any, .any, .any], [.gro false (.pair (.int .i64) (.int .i64)) t15 45], 0⟩) (fun t15 => (aE 2 (.adj [.co 0 true [], .drop 0] .nil))))))) (to_goal (q := (True ∧ (True ∧ (True ∧ (True ∧ (((True) ∧ (True) ∧ True) ∧ (∃ t15 : (List (Int × Int)), Trip cfg (.loop (cpath (Tryd.f5.body.getD .skip) [1, 1, 0, 1, 0, 0])) ⟨[.v (.one (.fs (.pair (.int .i64) (.int .i64)) a0 false)), .any, .any, .v (.one (.os 0 0 0 2 0 none)), .v (.one (.sc (.int .i64 (0 : Int)))), .any, .any, .any, .any, .any, .any, .any, .any, .any, .any, .any, .any, .any, .any], [.gro false (.pair (.int .i64) (.int .i64)) ([] : List (Int × Int)) 45], 0⟩ (fun e s => e = (.exit 0) ∧ s = ⟨[.any, .any, .any, .v (.one (.os 0 0 0 2 (List.length t15) none)), .any, .any, .any, .any, .any, .any, .any, .any, .any, .any, .any, .any, .any, .any, .any], [.gro false (.pair (.int .i64) (.int .i64)) t15 45], 0⟩) ∧ (True ∧ (True ∧ ((True) ∧ ((((0 = 0 ∧ (List.length t15) = (List.length t15))) ∧ True) ∧ (True) ∧ True) ∧ (.v (.one (.fs (.pair (.int .i64) (.int .i64)) t15 false)) : Tm) = halterlaw29_give.R r ∧ ([] : List Box) = [])))))))))) (by kernel_rfl) ?_)
  refine ⟨trivial, trivial, trivial, trivial, ?_⟩
  obtain ⟨t15, ht15, h⟩ := of_bind h
  refine ⟨⟨trivial, trivial, trivial⟩, t15, Trip.loop FUEL (halterlaw29_give.l0_ok a0 FUEL ([] : List (Int × Int)) (0 : Int) t15 ht15), ?_⟩
  refine ⟨trivial, trivial, ?_⟩
  obtain rfl := Option.some.inj h
  exact ⟨trivial, ⟨⟨⟨rfl, rfl⟩, trivial⟩, trivial, trivial⟩, rfl, rfl⟩
/-! halter/halterref29.May -/
def halterref29_May.l0 (a0 : (List (Int × Int))) : Nat → Int → Int → Option ((Unit) ⊕ (Unit))
  | 0, _, _ => none
  | n + 1, x1, x2 =>
    if x2 < (((List.length a0) : Nat) : Int) then
      if 0 ≤ x2 ∧ x2 < (((List.length a0) : Nat) : Int) then
        if (List.getD a0 (Int.toNat x2) ((0 : Int), (0 : Int))).1 ≤ x1 then
          some (.inr ())
        else
          if 0 ≤ x2 ∧ x2 < (((List.length a0) : Nat) : Int) then
            if (List.getD a0 (Int.toNat x2) ((0 : Int), (0 : Int))).1 > (99 : Int) then
              some (.inr ())
            else
              if 0 ≤ x2 ∧ x2 < (((List.length a0) : Nat) : Int) then
                if (List.getD a0 (Int.toNat x2) ((0 : Int), (0 : Int))).2 < (1 : Int) then
                  some (.inr ())
                else
                  if 0 ≤ x2 ∧ x2 < (((List.length a0) : Nat) : Int) then
                    if (List.getD a0 (Int.toNat x2) ((0 : Int), (0 : Int))).2 > (1099511627776 : Int) then
                      some (.inr ())
                    else
                      if 0 ≤ x2 ∧ x2 < (((List.length a0) : Nat) : Int) then
                        halterref29_May.l0 a0 n (List.getD a0 (Int.toNat x2) ((0 : Int), (0 : Int))).1 (IntKind.wrap .i64 (x2 + (1 : Int)))
                      else none
                  else none
              else none
          else none
      else none
    else
      some (.inl ())
def halterref29_May.l0_S (a0 : (List (Int × Int))) (x1 : Int) (x2 : Int) : St := ⟨[.v (.one (.fs (.pair (.int .i64) (.int .i64)) a0 false)), .any, .any, .v (.one (.sc (.int .i64 x1))), .v (.one (.sc (.int .i64 x2))), .any, .any, .any, .any, .any, .any, .any, .any, .any, .any, .any, .any, .any, .any, .any, .any, .any, .any, .any, .any, .any, .any, .any, .any, .any, .any, .any, .any, .any, .any, .any, .any, .any, .any, .any, .any, .any, .any, .any, .any, .any, .any], [], 0⟩
def halterref29_May.l0_Q (a0 : (List (Int × Int))) : (Unit) ⊕ (Unit) → Exit → St → Prop
  | .inl t => fun e s => e = (.exit 0) ∧ s = ⟨[.any, .any, .any, .any, .any, .any, .any, .any, .any, .any, .any, .any, .any, .any, .any, .any, .any, .any, .any, .any, .any, .any, .any, .any, .any, .any, .any, .any, .any, .any, .any, .any, .any, .any, .any, .any, .any, .any, .any, .any, .any, .any, .any, .any, .any, .any, .any], [], 0⟩
  | .inr t => fun e s => e = .ret ∧ s = ⟨[.any, .any, .v (.one (.sc (.bool false))), .any, .any, .any, .any, .any, .any, .any, .any, .any, .any, .any, .any, .any, .any, .any, .any, .any, .any, .any, .any, .any, .any, .any, .any, .any, .any, .any, .any, .any, .any, .any, .any, .any, .any, .any, .any, .any, .any, .any, .any, .any, .any, .any, .any], [], 0⟩
theorem halterref29_May.l0_ok (a0 : (List (Int × Int))) : ∀ (n : Nat) (x1 : Int) (x2 : Int) (r : (Unit) ⊕ (Unit)), halterref29_May.l0 a0 n x1 x2 = some r → TripN cfg (cpath (Tryd.f14.body.getD .skip) [1, 1, 0, 1, 0, 0]) n (halterref29_May.l0_S a0 x1 x2) (halterref29_May.l0_Q a0 r) := by
  intro n
  induction n with
  | zero => intro x1 x2 r h; cases h
  | succ n ih =>
    intro x1 x2 r h
    rw [halterref29_May.l0] at h
    refine TripN.of_run cfg_ok (k := (.br (.br (oT 21 (.adj [] (.adj [.keep [2], .drop 0] .nil))) (oF 6 (.br (oT 14 (.adj [] (.adj [.keep [2], .drop 0] .nil))) (oF 6 (.br (oT 7 (.adj [] (.adj [.keep [2], .drop 0] .nil))) (oF 6 (.br (.adj [] (.adj [.keep [2], .drop 0] .nil)) (aE 3 (.adj [.keep [0, 3, 4], .drop 0] .nil))))))))) (.adj [.keep [], .drop 0] .nil))) (to_goal (q := (True) ∧ (True) ∧ (((decide (x2 < (((List.length a0) : Nat) : Int))) = true → (0 ≤ x2 ∧ x2 < (((List.length a0) : Nat) : Int)) ∧ (True) ∧ (True) ∧ (((decide ((List.getD a0 (Int.toNat x2) ((0 : Int), (0 : Int))).1 ≤ x1)) = false → ((decide ((List.getD a0 (Int.toNat x2) ((0 : Int), (0 : Int))).1 ≤ x1)) = false ∧ ((decide ((List.getD a0 (Int.toNat x2) ((0 : Int), (0 : Int))).1 ≤ x1)) = false ∧ (0 ≤ x2 ∧ x2 < (((List.length a0) : Nat) : Int)) ∧ ((decide ((List.getD a0 (Int.toNat x2) ((0 : Int), (0 : Int))).1 ≤ x1)) = false ∧ ((decide ((List.getD a0 (Int.toNat x2) ((0 : Int), (0 : Int))).1 ≤ x1)) = false ∧ (True) ∧ ((decide ((List.getD a0 (Int.toNat x2) ((0 : Int), (0 : Int))).1 ≤ x1)) = false ∧ (True) ∧ ((decide ((List.getD a0 (Int.toNat x2) ((0 : Int), (0 : Int))).1 ≤ x1)) = false ∧ (((decide ((List.getD a0 (Int.toNat x2) ((0 : Int), (0 : Int))).1 > (99 : Int))) = false → ((decide ((List.getD a0 (Int.toNat x2) ((0 : Int), (0 : Int))).1 > (99 : Int))) = false ∧ ((decide ((List.getD a0 (Int.toNat x2) ((0 : Int), (0 : Int))).1 > (99 : Int))) = false ∧ (0 ≤ x2 ∧ x2 < (((List.length a0) : Nat) : Int)) ∧ ((decide ((List.getD a0 (Int.toNat x2) ((0 : Int), (0 : Int))).1 > (99 : Int))) = false ∧ ((decide ((List.getD a0 (Int.toNat x2) ((0 : Int), (0 : Int))).1 > (99 : Int))) = false ∧ (True) ∧ ((decide ((List.getD a0 (Int.toNat x2) ((0 : Int), (0 : Int))).1 > (99 : Int))) = false ∧ (True) ∧ ((decide ((List.getD a0 (Int.toNat x2) ((0 : Int), (0 : Int))).1 > (99 : Int))) = false ∧ (((decide ((List.getD a0 (Int.toNat x2) ((0 : Int), (0 : Int))).2 < (1 : Int))) = false → ((decide ((List.getD a0 (Int.toNat x2) ((0 : Int), (0 : Int))).2 < (1 : Int))) = false ∧ ((decide ((List.getD a0 (Int.toNat x2) ((0 : Int), (0 : Int))).2 < (1 : Int))) = false ∧ (0 ≤ x2 ∧ x2 < (((List.length a0) : Nat) : Int)) ∧ ((decide ((List.getD a0 (Int.toNat x2) ((0 : Int), (0 : Int))).2 < (1 : Int))) = false ∧ ((decide ((List.getD a0 (Int.toNat x2) ((0 : Int), (0 : Int))).2 < (1 : Int))) = false ∧ (True) ∧ ((decide ((List.getD a0 (Int.toNat x2) ((0 : Int), (0 : Int))).2 < (1 : Int))) = false ∧ (True) ∧ ((decide ((List.getD a0 (Int.toNat x2) ((0 : Int), (0 : Int))).2 < (1 : Int))) = false ∧ (((decide ((List.getD a0 (Int.toNat x2) ((0 : Int), (0 : Int))).2 > (1099511627776 : Int))) = true → (True ∧ (((True) ∧ (True) ∧ True) ∧ halterref29_May.l0_Q a0 r .ret ⟨[.any, .any, .v (.one (.sc (.bool false))), .any, .any, .any, .any, .any, .any, .any, .any, .any, .any, .any, .any, .any, .any, .any, .any, .any, .any, .any, .any, .any, .any, .any, .any, .any, .any, .any, .any, .any, .any, .any, .any, .any, .any, .any, .any, .any, .any, .any, .any, .any, .any, .any, .any], [], 0⟩))) ∧ ((decide ((List.getD a0 (Int.toNat x2) ((0 : Int), (0 : Int))).2 > (1099511627776 : Int))) = false → (True ∧ (True ∧ (0 ≤ x2 ∧ x2 < (((List.length a0) : Nat) : Int)) ∧ (True) ∧ (True ∧ (True) ∧ (((True) ∧ (True) ∧ True) ∧ TripN cfg (cpath (Tryd.f14.body.getD .skip) [1, 1, 0, 1, 0, 0]) n (halterref29_May.l0_S a0 (List.getD a0 (Int.toNat x2) ((0 : Int), (0 : Int))).1 (IntKind.wrap .i64 (x2 + (1 : Int)))) (halterref29_May.l0_Q a0 r)))))))))))))) ∧ ((decide ((List.getD a0 (Int.toNat x2) ((0 : Int), (0 : Int))).2 < (1 : Int))) = true → ((decide ((List.getD a0 (Int.toNat x2) ((0 : Int), (0 : Int))).2 < (1 : Int))) = true ∧ ((decide ((List.getD a0 (Int.toNat x2) ((0 : Int), (0 : Int))).2 < (1 : Int))) = true ∧ ((decide ((List.getD a0 (Int.toNat x2) ((0 : Int), (0 : Int))).2 < (1 : Int))) = true ∧ ((decide ((List.getD a0 (Int.toNat x2) ((0 : Int), (0 : Int))).2 < (1 : Int))) = true ∧ ((decide ((List.getD a0 (Int.toNat x2) ((0 : Int), (0 : Int))).2 < (1 : Int))) = true ∧ ((decide ((List.getD a0 (Int.toNat x2) ((0 : Int), (0 : Int))).2 < (1 : Int))) = true ∧ (true = true ∧ (True ∧ (((True) ∧ (True) ∧ True) ∧ halterref29_May.l0_Q a0 r .ret ⟨[.any, .any, .v (.one (.sc (.bool false))), .any, .any, .any, .any, .any, .any, .any, .any, .any, .any, .any, .any, .any, .any, .any, .any, .any, .any, .any, .any, .any, .any, .any, .any, .any, .any, .any, .any, .any, .any, .any, .any, .any, .any, .any, .any, .any, .any, .any, .any, .any, .any, .any, .any], [], 0⟩)))))))))))))))))) ∧ ((decide ((List.getD a0 (Int.toNat x2) ((0 : Int), (0 : Int))).1 > (99 : Int))) = true → ((decide ((List.getD a0 (Int.toNat x2) ((0 : Int), (0 : Int))).1 > (99 : Int))) = true ∧ ((decide ((List.getD a0 (Int.toNat x2) ((0 : Int), (0 : Int))).1 > (99 : Int))) = true ∧ ((decide ((List.getD a0 (Int.toNat x2) ((0 : Int), (0 : Int))).1 > (99 : Int))) = true ∧ ((decide ((List.getD a0 (Int.toNat x2) ((0 : Int), (0 : Int))).1 > (99 : Int))) = true ∧ ((decide ((List.getD a0 (Int.toNat x2) ((0 : Int), (0 : Int))).1 > (99 : Int))) = true ∧ ((decide ((List.getD a0 (Int.toNat x2) ((0 : Int), (0 : Int))).1 > (99 : Int))) = true ∧ (true = true ∧ (true = true ∧ (true = true ∧ (true = true ∧ (true = true ∧ (true = true ∧ (true = true ∧ (true = true ∧ (True ∧ (((True) ∧ (True) ∧ True) ∧ halterref29_May.l0_Q a0 r .ret ⟨[.any, .any, .v (.one (.sc (.bool false))), .any, .any, .any, .any, .any, .any, .any, .any, .any, .any, .any, .any, .any, .any, .any, .any, .any, .any, .any, .any, .any, .any, .any, .any, .any, .any, .any, .any, .any, .any, .any, .any, .any, .any, .any, .any, .any, .any, .any, .any, .any, .any, .any, .any], [], 0⟩))))))))))))))))))))))))) ∧ ((decide ((List.getD a0 (Int.toNat x2) ((0 : Int), (0 : Int))).1 ≤ x1)) = true → ((decide ((List.getD a0 (Int.toNat x2) ((0 : Int), (0 : Int))).1 ≤ x1)) = true ∧ ((decide ((List.getD a0 (Int.toNat x2) ((0 : Int), (0 : Int))).1 ≤ x1)) = true ∧ ((decide ((List.getD a0 (Int.toNat x2) ((0 : Int), (0 : Int))).1 ≤ x1)) = true ∧ ((decide ((List.getD a0 (Int.toNat x2) ((0 : Int), (0 : Int))).1 ≤ x1)) = true ∧ ((decide ((List.getD a0 (Int.toNat x2) ((0 : Int), (0 : Int))).1 ≤ x1)) = true ∧ ((decide ((List.getD a0 (Int.toNat x2) ((0 : Int), (0 : Int))).1 ≤ x1)) = true ∧ (true = true ∧ (true = true ∧ (true = true ∧ (true = true ∧ (true = true ∧ (true = true ∧ (true = true ∧ (true = true ∧ (true = true ∧ (true = true ∧ (true = true ∧ (true = true ∧ (true = true ∧ (true = true ∧ (true = true ∧ (True ∧ (((True) ∧ (True) ∧ True) ∧ halterref29_May.l0_Q a0 r .ret ⟨[.any, .any, .v (.one (.sc (.bool false))), .any, .any, .any, .any, .any, .any, .any, .any, .any, .any, .any, .any, .any, .any, .any, .any, .any, .any, .any, .any, .any, .any, .any, .any, .any, .any, .any, .any, .any, .any, .any, .any, .any, .any, .any, .any, .any, .any, .any, .any, .any, .any, .any, .any], [], 0⟩)))))))))))))))))))))))))) ∧ ((decide (x2 < (((List.length a0) : Nat) : Int))) = false → (((True) ∧ (True) ∧ True) ∧ halterref29_May.l0_Q a0 r (.exit 0) ⟨[.any, .any, .any, .any, .any, .any, .any, .any, .any, .any, .any, .any, .any, .any, .any, .any, .any, .any, .any, .any, .any, .any, .any, .any, .any, .any, .any, .any, .any, .any, .any, .any, .any, .any, .any, .any, .any, .any, .any, .any, .any, .any, .any, .any, .any, .any, .any], [], 0⟩)))) (by kernel_rfl) ?_)
    refine ⟨trivial, trivial, ?_⟩
    refine ⟨fun b14 => ?_, fun b14 => ?_⟩
    · rw [if_pos (of_decide_eq_true b14)] at h
      obtain ⟨g23, h⟩ := of_guard h
      refine ⟨g23, ?_⟩
      refine ⟨trivial, trivial, ?_⟩
      refine ⟨fun b15 => ?_, fun b15 => ?_⟩
      · rw [if_neg (of_decide_eq_false b15)] at h
        refine ⟨b15, ?_⟩
        refine ⟨b15, ?_⟩
        obtain ⟨g22, h⟩ := of_guard h
        refine ⟨g22, ?_⟩
        refine ⟨b15, ?_⟩
        refine ⟨b15, ?_⟩
        refine ⟨trivial, ?_⟩
        refine ⟨b15, ?_⟩
        refine ⟨trivial, ?_⟩
        refine ⟨b15, ?_⟩
        refine ⟨fun b16 => ?_, fun b16 => ?_⟩
        · rw [if_neg (of_decide_eq_false b16)] at h
          refine ⟨b16, ?_⟩
          refine ⟨b16, ?_⟩
          obtain ⟨g21, h⟩ := of_guard h
          refine ⟨g21, ?_⟩
          refine ⟨b16, ?_⟩
          refine ⟨b16, ?_⟩
          refine ⟨trivial, ?_⟩
          refine ⟨b16, ?_⟩
          refine ⟨trivial, ?_⟩
          refine ⟨b16, ?_⟩
          refine ⟨fun b17 => ?_, fun b17 => ?_⟩
          · rw [if_neg (of_decide_eq_false b17)] at h
            refine ⟨b17, ?_⟩
            refine ⟨b17, ?_⟩
            obtain ⟨g20, h⟩ := of_guard h
            refine ⟨g20, ?_⟩
            refine ⟨b17, ?_⟩
            refine ⟨b17, ?_⟩
            refine ⟨trivial, ?_⟩
            refine ⟨b17, ?_⟩
            refine ⟨trivial, ?_⟩
            refine ⟨b17, ?_⟩
            refine ⟨fun b18 => ?_, fun b18 => ?_⟩
            · rw [if_pos (of_decide_eq_true b18)] at h
              refine ⟨trivial, ?_⟩
              obtain rfl := Option.some.inj h
              exact ⟨⟨trivial, trivial, trivial⟩, rfl, rfl⟩
            · rw [if_neg (of_decide_eq_false b18)] at h
              refine ⟨trivial, trivial, ?_⟩
              obtain ⟨g19, h⟩ := of_guard h
              refine ⟨g19, ?_⟩
              refine ⟨trivial, trivial, trivial, ?_⟩
              exact ⟨⟨trivial, trivial, trivial⟩, ih (List.getD a0 (Int.toNat x2) ((0 : Int), (0 : Int))).1 (IntKind.wrap .i64 (x2 + (1 : Int))) r h⟩
          · rw [if_pos (of_decide_eq_true b17)] at h
            refine ⟨b17, ?_⟩
            refine ⟨b17, ?_⟩
            refine ⟨b17, ?_⟩
            refine ⟨b17, ?_⟩
            refine ⟨b17, ?_⟩
            refine ⟨b17, ?_⟩
            refine ⟨rfl, trivial, ?_⟩
            obtain rfl := Option.some.inj h
            exact ⟨⟨trivial, trivial, trivial⟩, rfl, rfl⟩
        · rw [if_pos (of_decide_eq_true b16)] at h
          refine ⟨b16, ?_⟩
          refine ⟨b16, ?_⟩
          refine ⟨b16, ?_⟩
          refine ⟨b16, ?_⟩
          refine ⟨b16, ?_⟩
          refine ⟨b16, ?_⟩
          refine ⟨rfl, rfl, rfl, rfl, rfl, rfl, rfl, rfl, trivial, ?_⟩
          obtain rfl := Option.some.inj h
          exact ⟨⟨trivial, trivial, trivial⟩, rfl, rfl⟩
      · rw [if_pos (of_decide_eq_true b15)] at h
        refine ⟨b15, ?_⟩
        refine ⟨b15, ?_⟩
        refine ⟨b15, ?_⟩
        refine ⟨b15, ?_⟩
        refine ⟨b15, ?_⟩
        refine ⟨b15, ?_⟩
        refine ⟨rfl, rfl, rfl, rfl, rfl, rfl, rfl, rfl, rfl, rfl, rfl, rfl, rfl, rfl, rfl, trivial, ?_⟩
        obtain rfl := Option.some.inj h
        exact ⟨⟨trivial, trivial, trivial⟩, rfl, rfl⟩
    · rw [if_neg (of_decide_eq_false b14)] at h
      obtain rfl := Option.some.inj h
      exact ⟨⟨trivial, trivial, trivial⟩, rfl, rfl⟩
def halterref29_May.f (a0 : (List (Int × Int))) : Option Bool :=
  (halterref29_May.l0 a0 FUEL (0 : Int) (0 : Int)).bind fun t13 =>
  match t13 with
  | .inl t24 =>
    some true
  | .inr t25 =>
    some false
def halterref29_May.R (r : Bool) : Tm := .v (.one (.sc (.bool r)))
theorem halterref29_May.fun_ {a0 : (List (Int × Int))} {r : Bool} (h : halterref29_May.f a0 = some r) : Fun cfg 14 [.one (.fs (.pair (.int .i64) (.int .i64)) a0 false)] [] (halterref29_May.R r) [] := by
  unfold halterref29_May.f at h
  refine fun_of_run cfg_ok (f := 14) (fn := Tryd.f14) Tryd.func14 rfl (by kernel_rfl) (rs := [.tmp 2]) rfl (nt := 47) rfl (l := fin) (k := (aE 4 (.adj [.keep [0, 3, 4]] (.alt (.sub (Unit) (fun _ => (.exit 0)) (fun t24 => ⟨[.any, .any, .any, .any, .any, .any, .any, .any, .any, .any, .any, .any, .any, .any, .any, .any, .any, .any, .any, .any, .any, .any, .any, .any, .any, .any, .any, .any, .any, .any, .any, .any, .any, .any, .any, .any, .any, .any, .any, .any, .any, .any, .any, .any, .any, .any, .any], [], 0⟩) (fun t24 => (aE 3 .nil))) (.sub (Unit) (fun _ => .ret) (fun t25 => ⟨[.any, .any, .v (.one (.sc (.bool false))), .any, .any, .any, .any, .any, .any, .any, .any, .any, .any, .any, .any, .any, .any, .any, .any, .any, .any, .any, .any, .any, .any, .any, .any, .any, .any, .any, .any, .any, .any, .any, .any, .any, .any, .any, .any, .any, .any, .any, .any, .any, .any, .any, .any], [], 0⟩) (fun t25 => (.adj [] .nil))))))) (to_goal (q := (True ∧ (True ∧ (True ∧ (True ∧ (((True) ∧ True) ∧ ((∃ t24 : Unit, Trip cfg (.loop (cpath (Tryd.f14.body.getD .skip) [1, 1, 0, 1, 0, 0])) ⟨[.v (.one (.fs (.pair (.int .i64) (.int .i64)) a0 false)), .any, .any, .v (.one (.sc (.int .i64 (0 : Int)))), .v (.one (.sc (.int .i64 (0 : Int)))), .any, .any, .any, .any, .any, .any, .any, .any, .any, .any, .any, .any, .any, .any, .any, .any, .any, .any, .any, .any, .any, .any, .any, .any, .any, .any, .any, .any, .any, .any, .any, .any, .any, .any, .any, .any, .any, .any, .any, .any, .any, .any], [], 0⟩ (fun e s => e = (.exit 0) ∧ s = ⟨[.any, .any, .any, .any, .any, .any, .any, .any, .any, .any, .any, .any, .any, .any, .any, .any, .any, .any, .any, .any, .any, .any, .any, .any, .any, .any, .any, .any, .any, .any, .any, .any, .any, .any, .any, .any, .any, .any, .any, .any, .any, .any, .any, .any, .any, .any, .any], [], 0⟩) ∧ (True ∧ (True ∧ ((True) ∧ (True) ∧ (.v (.one (.sc (.bool true))) : Tm) = halterref29_May.R r ∧ ([] : List Box) = [])))) ∨ (∃ t25 : Unit, Trip cfg (.loop (cpath (Tryd.f14.body.getD .skip) [1, 1, 0, 1, 0, 0])) ⟨[.v (.one (.fs (.pair (.int .i64) (.int .i64)) a0 false)), .any, .any, .v (.one (.sc (.int .i64 (0 : Int)))), .v (.one (.sc (.int .i64 (0 : Int)))), .any, .any, .any, .any, .any, .any, .any, .any, .any, .any, .any, .any, .any, .any, .any, .any, .any, .any, .any, .any, .any, .any, .any, .any, .any, .any, .any, .any, .any, .any, .any, .any, .any, .any, .any, .any, .any, .any, .any, .any, .any, .any], [], 0⟩ (fun e s => e = .ret ∧ s = ⟨[.any, .any, .v (.one (.sc (.bool false))), .any, .any, .any, .any, .any, .any, .any, .any, .any, .any, .any, .any, .any, .any, .any, .any, .any, .any, .any, .any, .any, .any, .any, .any, .any, .any, .any, .any, .any, .any, .any, .any, .any, .any, .any, .any, .any, .any, .any, .any, .any, .any, .any, .any], [], 0⟩) ∧ ((True) ∧ (True) ∧ (.v (.one (.sc (.bool false))) : Tm) = halterref29_May.R r ∧ ([] : List Box) = []))))))))) (by kernel_rfl) ?_)
  refine ⟨trivial, trivial, trivial, trivial, ?_⟩
  obtain ⟨t13, ht13, h⟩ := of_bind h
  refine ⟨⟨trivial, trivial⟩, ?_⟩
  rcases t13 with t24 | t25
  · dsimp only at h
    left
    refine ⟨t24, Trip.loop FUEL (halterref29_May.l0_ok a0 FUEL (0 : Int) (0 : Int) (.inl t24) ht13), ?_⟩
    refine ⟨trivial, trivial, ?_⟩
    obtain rfl := Option.some.inj h
    exact ⟨trivial, trivial, rfl, rfl⟩
  · dsimp only at h
    right
    refine ⟨t25, Trip.loop FUEL (halterref29_May.l0_ok a0 FUEL (0 : Int) (0 : Int) (.inr t25) ht13), ?_⟩
    obtain rfl := Option.some.inj h
    exact ⟨trivial, trivial, rfl, rfl⟩
/-! halter/halterref29.whens -/
def halterref29_whens.l0 (a0 : (List (Int × Int))) : Nat → (List Int) → Int → Option (List Int)
  | 0, _, _ => none
  | n + 1, x7, x8 =>
    if x8 < (((List.length a0) : Nat) : Int) then
      if 0 ≤ x8 ∧ x8 < (((List.length a0) : Nat) : Int) then
        if 0 ≤ x8 ∧ x8 < (((List.length a0) : Nat) : Int) then
          if 0 ≤ (List.getD a0 (Int.toNat x8) ((0 : Int), (0 : Int))).1 ∧ (List.getD a0 (Int.toNat x8) ((0 : Int), (0 : Int))).1 < ((100 : Nat) : Int) then
            if (0 + (Int.toNat (List.getD a0 (Int.toNat x8) ((0 : Int), (0 : Int))).1)) < 100 then
              halterref29_whens.l0 a0 n (List.set x7 (0 + (Int.toNat (List.getD a0 (Int.toNat x8) ((0 : Int), (0 : Int))).1)) (List.getD a0 (Int.toNat x8) ((0 : Int), (0 : Int))).2) (IntKind.wrap .i64 (x8 + (1 : Int)))
            else none
          else none
        else none
      else none
    else
      some x7
def halterref29_whens.l0_S (a0 : (List (Int × Int))) (x7 : List Int) (x8 : Int) : St := ⟨[.v (.one (.fs (.pair (.int .i64) (.int .i64)) a0 false)), .any, .any, .v (.one (.os 0 0 0 1 100 none)), .v (.one (.sc (.int .i64 x8))), .any, .any, .any, .any, .any, .any, .any, .any, .any, .any, .any, .any, .any, .any, .any, .any, .any, .any, .any, .any], [.ex false [.row 100 (.int .i64) x7] 3], 0⟩
def halterref29_whens.l0_Q (a0 : (List (Int × Int))) (t : (List Int)) : Exit → St → Prop := fun e s => e = (.exit 0) ∧ s = ⟨[.any, .any, .any, .v (.one (.os 0 0 0 1 100 none)), .any, .any, .any, .any, .any, .any, .any, .any, .any, .any, .any, .any, .any, .any, .any, .any, .any, .any, .any, .any, .any], [.ex false [.row 100 (.int .i64) t] 3], 0⟩
theorem halterref29_whens.l0_ok (a0 : (List (Int × Int))) : ∀ (n : Nat) (x7 : List Int) (x8 : Int) (r : (List Int)), halterref29_whens.l0 a0 n x7 x8 = some r → TripN cfg (cpath (Tryd.f23.body.getD .skip) [1, 1, 0, 1, 0, 0]) n (halterref29_whens.l0_S a0 x7 x8) (halterref29_whens.l0_Q a0 r) := by
  intro n
  induction n with
  | zero => intro x7 x8 r h; cases h
  | succ n ih =>
    intro x7 x8 r h
    rw [halterref29_whens.l0] at h
    refine TripN.of_run cfg_ok (k := (.br (.dr [(0, dN), (1, dN), (2, dN), (3, dN), (4, dN), (6, dN), (7, dN), (8, dN), (9, dN), (5, dN), (10, dN), (11, dN), (12, dN)] (.adj [] (.adj [.keep [0, 3, 4], .drop 1] .nil))) (.adj [.keep [3], .drop 1] .nil))) (to_goal (q := (True) ∧ (True) ∧ (((decide (x8 < (((List.length a0) : Nat) : Int))) = true → (0 ≤ x8 ∧ x8 < (((List.length a0) : Nat) : Int)) ∧ (0 ≤ x8 ∧ x8 < (((List.length a0) : Nat) : Int)) ∧ (True) ∧ (True) ∧ (0 ≤ (List.getD a0 (Int.toNat x8) ((0 : Int), (0 : Int))).1 ∧ (List.getD a0 (Int.toNat x8) ((0 : Int), (0 : Int))).1 < ((100 : Nat) : Int)) ∧ ((0 + (Int.toNat (List.getD a0 (Int.toNat x8) ((0 : Int), (0 : Int))).1)) < 100) ∧ (True ∧ (True) ∧ (((True) ∧ (True) ∧ True) ∧ TripN cfg (cpath (Tryd.f23.body.getD .skip) [1, 1, 0, 1, 0, 0]) n (halterref29_whens.l0_S a0 (List.set x7 (0 + (Int.toNat (List.getD a0 (Int.toNat x8) ((0 : Int), (0 : Int))).1)) (List.getD a0 (Int.toNat x8) ((0 : Int), (0 : Int))).2) (IntKind.wrap .i64 (x8 + (1 : Int)))) (halterref29_whens.l0_Q a0 r)))) ∧ ((decide (x8 < (((List.length a0) : Nat) : Int))) = false → (((True) ∧ (True) ∧ True) ∧ halterref29_whens.l0_Q a0 r (.exit 0) ⟨[.any, .any, .any, .v (.one (.os 0 0 0 1 100 none)), .any, .any, .any, .any, .any, .any, .any, .any, .any, .any, .any, .any, .any, .any, .any, .any, .any, .any, .any, .any, .any], [.ex false [.row 100 (.int .i64) x7] 3], 0⟩)))) (by kernel_rfl) ?_)
    refine ⟨trivial, trivial, ?_⟩
    refine ⟨fun b16 => ?_, fun b16 => ?_⟩
    · rw [if_pos (of_decide_eq_true b16)] at h
      obtain ⟨g17, h⟩ := of_guard h
      obtain ⟨g18, h⟩ := of_guard h
      obtain ⟨g19, h⟩ := of_guard h
      obtain ⟨g20, h⟩ := of_guard h
      refine ⟨g17, g18, trivial, trivial, g19, g20, ?_⟩
      refine ⟨trivial, trivial, ?_⟩
      exact ⟨⟨trivial, trivial, trivial⟩, ih (List.set x7 (0 + (Int.toNat (List.getD a0 (Int.toNat x8) ((0 : Int), (0 : Int))).1)) (List.getD a0 (Int.toNat x8) ((0 : Int), (0 : Int))).2) (IntKind.wrap .i64 (x8 + (1 : Int))) r h⟩
    · rw [if_neg (of_decide_eq_false b16)] at h
      obtain rfl := Option.some.inj h
      exact ⟨⟨trivial, trivial, trivial⟩, rfl, rfl⟩
def halterref29_whens.f (a0 : (List (Int × Int))) : Option (List Int) :=
  (halterref29_whens.l0 a0 FUEL (List.replicate 100 (0 : Int)) (0 : Int)).bind fun t15 =>
  some t15
def halterref29_whens.R (r : (List Int)) : Tm := .v (.one (.os 0 0 0 1 100 none))
def halterref29_whens.B (a0 : (List (Int × Int))) (r : (List Int)) : List Box := [.ex false [.row 100 (.int .i64) r] 3]
theorem halterref29_whens.fun_ {a0 : (List (Int × Int))} {r : (List Int)} (h : halterref29_whens.f a0 = some r) : Fun cfg 23 [.one (.fs (.pair (.int .i64) (.int .i64)) a0 false)] [] (halterref29_whens.R r) (halterref29_whens.B a0 r) := by
  unfold halterref29_whens.f at h
  refine fun_of_run cfg_ok (f := 23) (fn := Tryd.f23) Tryd.func23 rfl (by kernel_rfl) (rs := [.tmp 2]) rfl (nt := 25) rfl (l := fin) (k := (.d .no (aE 2 (.adj [.keep [0, 3, 4], .nocap] (.sub ((List Int)) (fun _ => (.exit 0)) (fun t15 => ⟨[.any, .any, .any, .v (.one (.os 0 0 0 1 100 none)), .any, .any, .any, .any, .any, .any, .any, .any, .any, .any, .any, .any, .any, .any, .any, .any, .any, .any, .any, .any, .any], [.ex false [.row 100 (.int .i64) t15] 3], 0⟩) (fun t15 => (aE 3 .nil))))))) (to_goal (q := (0 ≤ (100 : Int) ∧ (100 : Int) = (100 : Int) ∧ (8 : Int) * (100 : Int) ≤ 281474976710656 ∧ (100 : Int) ≤ 9223372036854775807) ∧ (True ∧ (True ∧ (((True) ∧ (True) ∧ True) ∧ (∃ t15 : (List Int), Trip cfg (.loop (cpath (Tryd.f23.body.getD .skip) [1, 1, 0, 1, 0, 0])) ⟨[.v (.one (.fs (.pair (.int .i64) (.int .i64)) a0 false)), .any, .any, .v (.one (.os 0 0 0 1 100 none)), .v (.one (.sc (.int .i64 (0 : Int)))), .any, .any, .any, .any, .any, .any, .any, .any, .any, .any, .any, .any, .any, .any, .any, .any, .any, .any, .any, .any], [.ex false [.row 100 (.int .i64) (List.replicate 100 (0 : Int))] 3], 0⟩ (fun e s => e = (.exit 0) ∧ s = ⟨[.any, .any, .any, .v (.one (.os 0 0 0 1 100 none)), .any, .any, .any, .any, .any, .any, .any, .any, .any, .any, .any, .any, .any, .any, .any, .any, .any, .any, .any, .any, .any], [.ex false [.row 100 (.int .i64) t15] 3], 0⟩) ∧ (True ∧ (True ∧ ((True) ∧ (True) ∧ (.v (.one (.os 0 0 0 1 100 none)) : Tm) = halterref29_whens.R r ∧ ([.ex false [.row 100 (.int .i64) t15] 3] : List Box) = halterref29_whens.B a0 r)))))))) (by kernel_rfl) ?_)
  refine ⟨(by decide), ?_⟩
  refine ⟨trivial, trivial, ?_⟩
  obtain ⟨t15, ht15, h⟩ := of_bind h
  refine ⟨⟨trivial, trivial, trivial⟩, t15, Trip.loop FUEL (halterref29_whens.l0_ok a0 FUEL (List.replicate 100 (0 : Int)) (0 : Int) t15 ht15), ?_⟩
  refine ⟨trivial, trivial, ?_⟩
  obtain rfl := Option.some.inj h
  exact ⟨trivial, trivial, rfl, rfl⟩
/-! halter/halterref29.list -/
def halterref29_list.l0 (a0 : (List Int)) : Nat → (List (Int × Int)) → Int → Option (List (Int × Int))
  | 0, _, _ => none
  | n + 1, x13, x14 =>
    if x14 < (100 : Int) then
      if 0 ≤ x14 ∧ x14 < (((List.length a0) : Nat) : Int) then
        if (List.getD a0 (Int.toNat x14) (0 : Int)) > (0 : Int) then
          if 0 ≤ x14 ∧ x14 < (((List.length a0) : Nat) : Int) then
            if 0 + 1 ≤ 1 ∧ 0 = 0 ∧ (List.length x13) = (List.length x13) ∧ (((List.length x13) + (List.length (List.take 1 [(x14, (List.getD a0 (Int.toNat x14) (0 : Int)))]))) * 16 ≤ 140737488355328 ∧ (List.length x13) + (List.length (List.take 1 [(x14, (List.getD a0 (Int.toNat x14) (0 : Int)))])) ≤ 9223372036854775807) then
              halterref29_list.l0 a0 n (x13 ++ (List.take 1 [(x14, (List.getD a0 (Int.toNat x14) (0 : Int)))])) (IntKind.wrap .i64 (x14 + (1 : Int)))
            else none
          else none
        else
          halterref29_list.l0 a0 n x13 (IntKind.wrap .i64 (x14 + (1 : Int)))
      else none
    else
      some x13
def halterref29_list.l0_S (a0 : (List Int)) (x13 : List (Int × Int)) (x14 : Int) : St := ⟨[.v (.one (.fs (.int .i64) a0 false)), .any, .any, .v (.one (.os 0 0 0 2 (List.length x13) none)), .v (.one (.sc (.int .i64 x14))), .any, .any, .any, .any, .any, .any, .any, .any, .any, .any, .any, .any, .any, .any, .any, .any, .any, .any, .any], [.gro false (.pair (.int .i64) (.int .i64)) x13 46], 0⟩
def halterref29_list.l0_Q (a0 : (List Int)) (t : (List (Int × Int))) : Exit → St → Prop := fun e s => e = (.exit 0) ∧ s = ⟨[.any, .any, .any, .v (.one (.os 0 0 0 2 (List.length t) none)), .any, .any, .any, .any, .any, .any, .any, .any, .any, .any, .any, .any, .any, .any, .any, .any, .any, .any, .any, .any], [.gro false (.pair (.int .i64) (.int .i64)) t 46], 0⟩
theorem halterref29_list.l0_ok (a0 : (List Int)) : ∀ (n : Nat) (x13 : List (Int × Int)) (x14 : Int) (r : (List (Int × Int))), halterref29_list.l0 a0 n x13 x14 = some r → TripN cfg (cpath (Tryd.f24.body.getD .skip) [1, 1, 0, 1, 0, 0]) n (halterref29_list.l0_S a0 x13 x14) (halterref29_list.l0_Q a0 r) := by
  intro n
  induction n with
  | zero => intro x13 x14 r h; cases h
  | succ n ih =>
    intro x13 x14 r h
    rw [halterref29_list.l0] at h
    refine TripN.of_run cfg_ok (k := (.br (.br (.d .no (.d (.b false) (.adj [] (.adj [.keep [0, 3, 4], .drop 1] .nil)))) (aE 2 (.adj [.keep [0, 3, 4], .drop 1] .nil))) (.adj [.keep [3], .drop 1] .nil))) (to_goal (q := (True) ∧ (((decide (x14 < (100 : Int))) = true → (0 ≤ x14 ∧ x14 < (((List.length a0) : Nat) : Int)) ∧ (True) ∧ (True) ∧ (((decide ((List.getD a0 (Int.toNat x14) (0 : Int)) > (0 : Int))) = true → (0 ≤ x14 ∧ x14 < (((List.length a0) : Nat) : Int)) ∧ (True) ∧ (0 + 1 ≤ 1 ∧ 0 = 0 ∧ (List.length x13) = (List.length x13) ∧ (((List.length x13) + (List.length (List.take 1 [(x14, (List.getD a0 (Int.toNat x14) (0 : Int)))]))) * 16 ≤ 140737488355328 ∧ (List.length x13) + (List.length (List.take 1 [(x14, (List.getD a0 (Int.toNat x14) (0 : Int)))])) ≤ 9223372036854775807)) ∧ (True ∧ (True) ∧ (((True) ∧ (True) ∧ True) ∧ TripN cfg (cpath (Tryd.f24.body.getD .skip) [1, 1, 0, 1, 0, 0]) n (halterref29_list.l0_S a0 (x13 ++ (List.take 1 [(x14, (List.getD a0 (Int.toNat x14) (0 : Int)))])) (IntKind.wrap .i64 (x14 + (1 : Int)))) (halterref29_list.l0_Q a0 r)))) ∧ ((decide ((List.getD a0 (Int.toNat x14) (0 : Int)) > (0 : Int))) = false → (True ∧ (True ∧ (True) ∧ (((True) ∧ (True) ∧ True) ∧ TripN cfg (cpath (Tryd.f24.body.getD .skip) [1, 1, 0, 1, 0, 0]) n (halterref29_list.l0_S a0 x13 (IntKind.wrap .i64 (x14 + (1 : Int)))) (halterref29_list.l0_Q a0 r))))))) ∧ ((decide (x14 < (100 : Int))) = false → (((True) ∧ (True) ∧ True) ∧ halterref29_list.l0_Q a0 r (.exit 0) ⟨[.any, .any, .any, .v (.one (.os 0 0 0 2 (List.length x13) none)), .any, .any, .any, .any, .any, .any, .any, .any, .any, .any, .any, .any, .any, .any, .any, .any, .any, .any, .any, .any], [.gro false (.pair (.int .i64) (.int .i64)) x13 46], 0⟩)))) (by kernel_rfl) ?_)
    refine ⟨trivial, ?_⟩
    refine ⟨fun b22 => ?_, fun b22 => ?_⟩
    · rw [if_pos (of_decide_eq_true b22)] at h
      obtain ⟨g26, h⟩ := of_guard h
      refine ⟨g26, ?_⟩
      refine ⟨trivial, trivial, ?_⟩
      refine ⟨fun b23 => ?_, fun b23 => ?_⟩
      · rw [if_pos (of_decide_eq_true b23)] at h
        obtain ⟨g25, h⟩ := of_guard h
        refine ⟨g25, ?_⟩
        refine ⟨trivial, ?_⟩
        obtain ⟨g24, h⟩ := of_guard h
        refine ⟨g24, ?_⟩
        refine ⟨trivial, trivial, ?_⟩
        exact ⟨⟨trivial, trivial, trivial⟩, ih (x13 ++ (List.take 1 [(x14, (List.getD a0 (Int.toNat x14) (0 : Int)))])) (IntKind.wrap .i64 (x14 + (1 : Int))) r h⟩
      · rw [if_neg (of_decide_eq_false b23)] at h
        refine ⟨trivial, trivial, trivial, ?_⟩
        exact ⟨⟨trivial, trivial, trivial⟩, ih x13 (IntKind.wrap .i64 (x14 + (1 : Int))) r h⟩
    · rw [if_neg (of_decide_eq_false b22)] at h
      obtain rfl := Option.some.inj h
      exact ⟨⟨trivial, trivial, trivial⟩, rfl, rfl⟩
def halterref29_list.f (a0 : (List Int)) : Option (List (Int × Int)) :=
  (halterref29_list.l0 a0 FUEL ([] : List (Int × Int)) (1 : Int)).bind fun t21 =>
  some t21
def halterref29_list.R (r : (List (Int × Int))) : Tm := .v (.one (.fs (.pair (.int .i64) (.int .i64)) r false))
theorem halterref29_list.fun_ {a0 : (List Int)} {r : (List (Int × Int))} (h : halterref29_list.f a0 = some r) : Fun cfg 24 [.one (.fs (.int .i64) a0 false)] [] (halterref29_list.R r) [] := by
  unfold halterref29_list.f at h
  refine fun_of_run cfg_ok (f := 24) (fn := Tryd.f24) Tryd.func24 rfl (by kernel_rfl) (rs := [.tmp 2]) rfl (nt := 24) rfl (l := fin) (k := (aE 4 (.adj [.keep [0, 3, 4], .nilGro 3 (.pair (.int .i64) (.int .i64)) 46] (.sub ((List (Int × Int))) (fun _ => (.exit 0)) (fun t21 => ⟨[.any, .any, .any, .v (.one (.os 0 0 0 2 (List.length t21) none)), .any, .any, .any, .any, .any, .any, .any, .any, .any, .any, .any, .any, .any, .any, .any, .any, .any, .any, .any, .any], [.gro false (.pair (.int .i64) (.int .i64)) t21 46], 0⟩) (fun t21 => (aE 2 (.adj [.co 0 true [], .drop 0] .nil))))))) (to_goal (q := (True ∧ (True ∧ (True ∧ (True ∧ (((True) ∧ (True) ∧ True) ∧ (∃ t21 : (List (Int × Int)), Trip cfg (.loop (cpath (Tryd.f24.body.getD .skip) [1, 1, 0, 1, 0, 0])) ⟨[.v (.one (.fs (.int .i64) a0 false)), .any, .any, .v (.one (.os 0 0 0 2 0 none)), .v (.one (.sc (.int .i64 (1 : Int)))), .any, .any, .any, .any, .any, .any, .any, .any, .any, .any, .any, .any, .any, .any, .any, .any, .any, .any, .any], [.gro false (.pair (.int .i64) (.int .i64)) ([] : List (Int × Int)) 46], 0⟩ (fun e s => e = (.exit 0) ∧ s = ⟨[.any, .any, .any, .v (.one (.os 0 0 0 2 (List.length t21) none)), .any, .any, .any, .any, .any, .any, .any, .any, .any, .any, .any, .any, .any, .any, .any, .any, .any, .any, .any, .any], [.gro false (.pair (.int .i64) (.int .i64)) t21 46], 0⟩) ∧ (True ∧ (True ∧ ((True) ∧ ((((0 = 0 ∧ (List.length t21) = (List.length t21))) ∧ True) ∧ (True) ∧ True) ∧ (.v (.one (.fs (.pair (.int .i64) (.int .i64)) t21 false)) : Tm) = halterref29_list.R r ∧ ([] : List Box) = [])))))))))) (by kernel_rfl) ?_)
  refine ⟨trivial, trivial, trivial, trivial, ?_⟩
  obtain ⟨t21, ht21, h⟩ := of_bind h
  refine ⟨⟨trivial, trivial, trivial⟩, t21, Trip.loop FUEL (halterref29_list.l0_ok a0 FUEL ([] : List (Int × Int)) (1 : Int) t21 ht21), ?_⟩
  refine ⟨trivial, trivial, ?_⟩
  obtain rfl := Option.some.inj h
  exact ⟨trivial, ⟨⟨⟨rfl, rfl⟩, trivial⟩, trivial, trivial⟩, rfl, rfl⟩
/-! halter/halterref29.Set -/
def halterref29_Set.f (a0 : (List (Int × Int))) (a1 : Int) (a2 : Int) (a3 : Int) : Option ((List (Int × Int)) × Int × Int) :=
  (halterref29_May.f a0).bind fun t1 =>
  if ¬ (t1 = true) then
    some (([] : List (Int × Int)), (0 : Int), (22 : Int))
  else
    if a2 < (0 : Int) then
      some (([] : List (Int × Int)), (0 : Int), (22 : Int))
    else
      if a2 > (549755813888 : Int) then
        some (([] : List (Int × Int)), (0 : Int), (22 : Int))
      else
        if a1 < (1 : Int) then
          some (([] : List (Int × Int)), (0 : Int), (22 : Int))
        else
          if a1 > (99 : Int) then
            some (([] : List (Int × Int)), (0 : Int), (22 : Int))
          else
            if a3 < (0 : Int) then
              some (([] : List (Int × Int)), (0 : Int), (22 : Int))
            else
              if a3 > (4294967296 : Int) then
                some (([] : List (Int × Int)), (0 : Int), (22 : Int))
              else
                (halterref29_whens.f a0).bind fun t9 =>
                if 0 ≤ a1 ∧ a1 < ((100 : Nat) : Int) then
                  if (0 + (Int.toNat a1)) < 100 then
                    if (List.getD t9 (0 + (Int.toNat a1)) (0 : Int)) > a2 then
                      if 0 ≤ a1 ∧ a1 < ((100 : Nat) : Int) then
                        if (0 + (Int.toNat a1)) < 100 then
                          if 0 ≤ a1 ∧ a1 < ((100 : Nat) : Int) then
                            if (0 + (Int.toNat a1)) < 100 then
                              if a3 > (0 : Int) then
                                if 0 ≤ a1 ∧ a1 < ((100 : Nat) : Int) then
                                  if (0 + (Int.toNat a1)) < 100 then
                                    (halterref29_list.f (List.take 100 (List.set (List.set t9 (0 + (Int.toNat a1)) (0 : Int)) (0 + (Int.toNat a1)) (IntKind.wrap .i64 (a2 + a3))))).bind fun t12 =>
                                    some (t12, (IntKind.wrap .i64 ((List.getD t9 (0 + (Int.toNat a1)) (0 : Int)) - a2)), (0 : Int))
                                  else none
                                else none
                              else
                                (halterref29_list.f (List.take 100 (List.set t9 (0 + (Int.toNat a1)) (0 : Int)))).bind fun t15 =>
                                some (t15, (IntKind.wrap .i64 ((List.getD t9 (0 + (Int.toNat a1)) (0 : Int)) - a2)), (0 : Int))
                            else none
                          else none
                        else none
                      else none
                    else
                      if 0 ≤ a1 ∧ a1 < ((100 : Nat) : Int) then
                        if (0 + (Int.toNat a1)) < 100 then
                          if a3 > (0 : Int) then
                            if 0 ≤ a1 ∧ a1 < ((100 : Nat) : Int) then
                              if (0 + (Int.toNat a1)) < 100 then
                                (halterref29_list.f (List.take 100 (List.set (List.set t9 (0 + (Int.toNat a1)) (0 : Int)) (0 + (Int.toNat a1)) (IntKind.wrap .i64 (a2 + a3))))).bind fun t21 =>
                                some (t21, (0 : Int), (0 : Int))
                              else none
                            else none
                          else
                            (halterref29_list.f (List.take 100 (List.set t9 (0 + (Int.toNat a1)) (0 : Int)))).bind fun t24 =>
                            some (t24, (0 : Int), (0 : Int))
                        else none
                      else none
                  else none
                else none
def halterref29_Set.R (r : (List (Int × Int)) × Int × Int) : Tm := .tup [.one (.fs (.pair (.int .i64) (.int .i64)) r.1 false), .one (.sc (.int .i64 r.2.1)), .one (.sc (.int .i64 r.2.2))]
theorem halterref29_Set.fun_ {a0 : (List (Int × Int))} {a1 : Int} {a2 : Int} {a3 : Int} {r : (List (Int × Int)) × Int × Int} (h : halterref29_Set.f a0 a1 a2 a3 = some r) : Fun cfg 7 [.one (.fs (.pair (.int .i64) (.int .i64)) a0 false), .one (.sc (.int .i64 a1)), .one (.sc (.int .i64 a2)), .one (.sc (.int .i64 a3))] [] (halterref29_Set.R r) [] := by
  unfold halterref29_Set.f at h
  refine fun_of_run cfg_ok (f := 7) (fn := Tryd.f7) Tryd.func7 rfl (by kernel_rfl) (rs := [.tmp 8, .tmp 9, .tmp 10]) rfl (nt := 68) rfl (l := fin) (k := (.call true [] (Bool) halterref29_May.R (fun t1 => (.br (oT 18 (aE 2 (.adj [.co 0 true [(.pair (.int .i64) (.int .i64))]] .nil))) (oF 2 (.br (oT 15 (aE 2 (.adj [.co 0 true [(.pair (.int .i64) (.int .i64))]] .nil))) (oF 2 (.br (oT 12 (aE 2 (.adj [.co 0 true [(.pair (.int .i64) (.int .i64))]] .nil))) (oF 2 (.br (oT 9 (aE 2 (.adj [.co 0 true [(.pair (.int .i64) (.int .i64))]] .nil))) (oF 2 (.br (oT 6 (aE 2 (.adj [.co 0 true [(.pair (.int .i64) (.int .i64))]] .nil))) (oF 2 (.br (oT 3 (aE 2 (.adj [.co 0 true [(.pair (.int .i64) (.int .i64))]] .nil))) (oF 2 (.br (aE 2 (.adj [.co 0 true [(.pair (.int .i64) (.int .i64))]] .nil)) (.callR true [] [] ((List Int)) (fun t9 => (halterref29_whens.R t9)) (fun t9 => (halterref29_whens.B a0 t9)) (fun t9 => (.br (.br (.call false [] ((List (Int × Int))) halterref29_list.R (fun t12 => (.adj [] (.adj [.drop 0] .nil)))) (.call false [] ((List (Int × Int))) halterref29_list.R (fun t15 => (.adj [] (.adj [.drop 0] .nil))))) (.br (.call false [] ((List (Int × Int))) halterref29_list.R (fun t21 => (.adj [] (.adj [.drop 0] .nil)))) (.call false [] ((List (Int × Int))) halterref29_list.R (fun t24 => (.adj [] (.adj [.drop 0] .nil)))))))))))))))))))))))) (to_goal (q := (∃ t1 : Bool, (Fun cfg 14 [.one (.fs (.pair (.int .i64) (.int .i64)) a0 false)] [] (halterref29_May.R t1) [] ∧ True) ∧ (((!t1) = false → ((!t1) = false ∧ (True) ∧ ((!t1) = false ∧ (((decide (a2 < (0 : Int))) = false → ((decide (a2 < (0 : Int))) = false ∧ (True) ∧ ((decide (a2 < (0 : Int))) = false ∧ (((decide (a2 > (549755813888 : Int))) = false → ((decide (a2 > (549755813888 : Int))) = false ∧ (True) ∧ ((decide (a2 > (549755813888 : Int))) = false ∧ (((decide (a1 < (1 : Int))) = false → ((decide (a1 < (1 : Int))) = false ∧ (True) ∧ ((decide (a1 < (1 : Int))) = false ∧ (((decide (a1 > (99 : Int))) = false → ((decide (a1 > (99 : Int))) = false ∧ (True) ∧ ((decide (a1 > (99 : Int))) = false ∧ (((decide (a3 < (0 : Int))) = false → ((decide (a3 < (0 : Int))) = false ∧ (True) ∧ ((decide (a3 < (0 : Int))) = false ∧ (((decide (a3 > (4294967296 : Int))) = true → (True ∧ (True ∧ ((True) ∧ ((True) ∧ True) ∧ (.tup [.one (.fs (.pair (.int .i64) (.int .i64)) ([] : List (Int × Int)) false), .one (.sc (.int .i64 (0 : Int))), .one (.sc (.int .i64 (22 : Int)))] : Tm) = halterref29_Set.R r ∧ ([] : List Box) = [])))) ∧ ((decide (a3 > (4294967296 : Int))) = false → (∃ t9 : (List Int), (Fun cfg 23 [.one (.fs (.pair (.int .i64) (.int .i64)) a0 false)] [] (halterref29_whens.R t9) (halterref29_whens.B a0 t9) ∧ True) ∧ (0 ≤ a1 ∧ a1 < ((100 : Nat) : Int)) ∧ ((0 + (Int.toNat a1)) < 100) ∧ (True) ∧ (((decide ((List.getD t9 (0 + (Int.toNat a1)) (0 : Int)) > a2)) = true → (0 ≤ a1 ∧ a1 < ((100 : Nat) : Int)) ∧ ((0 + (Int.toNat a1)) < 100) ∧ (True) ∧ (0 ≤ a1 ∧ a1 < ((100 : Nat) : Int)) ∧ ((0 + (Int.toNat a1)) < 100) ∧ (True) ∧ (((decide (a3 > (0 : Int))) = true → (True) ∧ (0 ≤ a1 ∧ a1 < ((100 : Nat) : Int)) ∧ ((0 + (Int.toNat a1)) < 100) ∧ (∃ t12 : (List (Int × Int)), ((0 + 100 ≤ 100) ∧ Fun cfg 24 [.one (.fs (.int .i64) (List.take 100 (List.set (List.set t9 (0 + (Int.toNat a1)) (0 : Int)) (0 + (Int.toNat a1)) (IntKind.wrap .i64 (a2 + a3)))) false)] [] (halterref29_list.R t12) [] ∧ True) ∧ (True ∧ ((True) ∧ ((True) ∧ True) ∧ (.tup [.one (.fs (.pair (.int .i64) (.int .i64)) t12 false), .one (.sc (.int .i64 (IntKind.wrap .i64 ((List.getD t9 (0 + (Int.toNat a1)) (0 : Int)) - a2)))), .one (.sc (.int .i64 (0 : Int)))] : Tm) = halterref29_Set.R r ∧ ([] : List Box) = [])))) ∧ ((decide (a3 > (0 : Int))) = false → (∃ t15 : (List (Int × Int)), ((0 + 100 ≤ 100) ∧ Fun cfg 24 [.one (.fs (.int .i64) (List.take 100 (List.set t9 (0 + (Int.toNat a1)) (0 : Int))) false)] [] (halterref29_list.R t15) [] ∧ True) ∧ (True ∧ ((True) ∧ ((True) ∧ True) ∧ (.tup [.one (.fs (.pair (.int .i64) (.int .i64)) t15 false), .one (.sc (.int .i64 (IntKind.wrap .i64 ((List.getD t9 (0 + (Int.toNat a1)) (0 : Int)) - a2)))), .one (.sc (.int .i64 (0 : Int)))] : Tm) = halterref29_Set.R r ∧ ([] : List Box) = [])))))) ∧ ((decide ((List.getD t9 (0 + (Int.toNat a1)) (0 : Int)) > a2)) = false → (0 ≤ a1 ∧ a1 < ((100 : Nat) : Int)) ∧ ((0 + (Int.toNat a1)) < 100) ∧ (True) ∧ (((decide (a3 > (0 : Int))) = true → (True) ∧ (0 ≤ a1 ∧ a1 < ((100 : Nat) : Int)) ∧ ((0 + (Int.toNat a1)) < 100) ∧ (∃ t21 : (List (Int × Int)), ((0 + 100 ≤ 100) ∧ Fun cfg 24 [.one (.fs (.int .i64) (List.take 100 (List.set (List.set t9 (0 + (Int.toNat a1)) (0 : Int)) (0 + (Int.toNat a1)) (IntKind.wrap .i64 (a2 + a3)))) false)] [] (halterref29_list.R t21) [] ∧ True) ∧ (True ∧ ((True) ∧ ((True) ∧ True) ∧ (.tup [.one (.fs (.pair (.int .i64) (.int .i64)) t21 false), .one (.sc (.int .i64 (0 : Int))), .one (.sc (.int .i64 (0 : Int)))] : Tm) = halterref29_Set.R r ∧ ([] : List Box) = [])))) ∧ ((decide (a3 > (0 : Int))) = false → (∃ t24 : (List (Int × Int)), ((0 + 100 ≤ 100) ∧ Fun cfg 24 [.one (.fs (.int .i64) (List.take 100 (List.set t9 (0 + (Int.toNat a1)) (0 : Int))) false)] [] (halterref29_list.R t24) [] ∧ True) ∧ (True ∧ ((True) ∧ ((True) ∧ True) ∧ (.tup [.one (.fs (.pair (.int .i64) (.int .i64)) t24 false), .one (.sc (.int .i64 (0 : Int))), .one (.sc (.int .i64 (0 : Int)))] : Tm) = halterref29_Set.R r ∧ ([] : List Box) = []))))))))))))) ∧ ((decide (a3 < (0 : Int))) = true → ((decide (a3 < (0 : Int))) = true ∧ ((decide (a3 < (0 : Int))) = true ∧ (true = true ∧ (True ∧ (True ∧ ((True) ∧ ((True) ∧ True) ∧ (.tup [.one (.fs (.pair (.int .i64) (.int .i64)) ([] : List (Int × Int)) false), .one (.sc (.int .i64 (0 : Int))), .one (.sc (.int .i64 (22 : Int)))] : Tm) = halterref29_Set.R r ∧ ([] : List Box) = []))))))))))) ∧ ((decide (a1 > (99 : Int))) = true → ((decide (a1 > (99 : Int))) = true ∧ ((decide (a1 > (99 : Int))) = true ∧ (true = true ∧ (true = true ∧ (true = true ∧ (true = true ∧ (True ∧ (True ∧ ((True) ∧ ((True) ∧ True) ∧ (.tup [.one (.fs (.pair (.int .i64) (.int .i64)) ([] : List (Int × Int)) false), .one (.sc (.int .i64 (0 : Int))), .one (.sc (.int .i64 (22 : Int)))] : Tm) = halterref29_Set.R r ∧ ([] : List Box) = [])))))))))))))) ∧ ((decide (a1 < (1 : Int))) = true → ((decide (a1 < (1 : Int))) = true ∧ ((decide (a1 < (1 : Int))) = true ∧ (true = true ∧ (true = true ∧ (true = true ∧ (true = true ∧ (true = true ∧ (true = true ∧ (true = true ∧ (True ∧ (True ∧ ((True) ∧ ((True) ∧ True) ∧ (.tup [.one (.fs (.pair (.int .i64) (.int .i64)) ([] : List (Int × Int)) false), .one (.sc (.int .i64 (0 : Int))), .one (.sc (.int .i64 (22 : Int)))] : Tm) = halterref29_Set.R r ∧ ([] : List Box) = []))))))))))))))))) ∧ ((decide (a2 > (549755813888 : Int))) = true → ((decide (a2 > (549755813888 : Int))) = true ∧ ((decide (a2 > (549755813888 : Int))) = true ∧ (true = true ∧ (true = true ∧ (true = true ∧ (true = true ∧ (true = true ∧ (true = true ∧ (true = true ∧ (true = true ∧ (true = true ∧ (true = true ∧ (True ∧ (True ∧ ((True) ∧ ((True) ∧ True) ∧ (.tup [.one (.fs (.pair (.int .i64) (.int .i64)) ([] : List (Int × Int)) false), .one (.sc (.int .i64 (0 : Int))), .one (.sc (.int .i64 (22 : Int)))] : Tm) = halterref29_Set.R r ∧ ([] : List Box) = [])))))))))))))))))))) ∧ ((decide (a2 < (0 : Int))) = true → ((decide (a2 < (0 : Int))) = true ∧ ((decide (a2 < (0 : Int))) = true ∧ (true = true ∧ (true = true ∧ (true = true ∧ (true = true ∧ (true = true ∧ (true = true ∧ (true = true ∧ (true = true ∧ (true = true ∧ (true = true ∧ (true = true ∧ (true = true ∧ (true = true ∧ (True ∧ (True ∧ ((True) ∧ ((True) ∧ True) ∧ (.tup [.one (.fs (.pair (.int .i64) (.int .i64)) ([] : List (Int × Int)) false), .one (.sc (.int .i64 (0 : Int))), .one (.sc (.int .i64 (22 : Int)))] : Tm) = halterref29_Set.R r ∧ ([] : List Box) = []))))))))))))))))))))))) ∧ ((!t1) = true → ((!t1) = true ∧ ((!t1) = true ∧ (true = true ∧ (true = true ∧ (true = true ∧ (true = true ∧ (true = true ∧ (true = true ∧ (true = true ∧ (true = true ∧ (true = true ∧ (true = true ∧ (true = true ∧ (true = true ∧ (true = true ∧ (true = true ∧ (true = true ∧ (true = true ∧ (True ∧ (True ∧ ((True) ∧ ((True) ∧ True) ∧ (.tup [.one (.fs (.pair (.int .i64) (.int .i64)) ([] : List (Int × Int)) false), .one (.sc (.int .i64 (0 : Int))), .one (.sc (.int .i64 (22 : Int)))] : Tm) = halterref29_Set.R r ∧ ([] : List Box) = []))))))))))))))))))))))))) (by kernel_rfl) ?_)
  obtain ⟨t1, ht1, h⟩ := of_bind h
  refine ⟨t1, ⟨halterref29_May.fun_ ht1, trivial⟩, ?_⟩
  refine ⟨fun b2 => ?_, fun b2 => ?_⟩
  · rw [if_neg (not_not_intro (not_f b2))] at h
    refine ⟨b2, ?_⟩
    refine ⟨trivial, ?_⟩
    refine ⟨b2, ?_⟩
    refine ⟨fun b3 => ?_, fun b3 => ?_⟩
    · rw [if_neg (of_decide_eq_false b3)] at h
      refine ⟨b3, ?_⟩
      refine ⟨trivial, ?_⟩
      refine ⟨b3, ?_⟩
      refine ⟨fun b4 => ?_, fun b4 => ?_⟩
      · rw [if_neg (of_decide_eq_false b4)] at h
        refine ⟨b4, ?_⟩
        refine ⟨trivial, ?_⟩
        refine ⟨b4, ?_⟩
        refine ⟨fun b5 => ?_, fun b5 => ?_⟩
        · rw [if_neg (of_decide_eq_false b5)] at h
          refine ⟨b5, ?_⟩
          refine ⟨trivial, ?_⟩
          refine ⟨b5, ?_⟩
          refine ⟨fun b6 => ?_, fun b6 => ?_⟩
          · rw [if_neg (of_decide_eq_false b6)] at h
            refine ⟨b6, ?_⟩
            refine ⟨trivial, ?_⟩
            refine ⟨b6, ?_⟩
            refine ⟨fun b7 => ?_, fun b7 => ?_⟩
            · rw [if_neg (of_decide_eq_false b7)] at h
              refine ⟨b7, ?_⟩
              refine ⟨trivial, ?_⟩
              refine ⟨b7, ?_⟩
              refine ⟨fun b8 => ?_, fun b8 => ?_⟩
              · rw [if_pos (of_decide_eq_true b8)] at h
                refine ⟨trivial, trivial, ?_⟩
                obtain rfl := Option.some.inj h
                exact ⟨trivial, ⟨trivial, trivial⟩, rfl, rfl⟩
              · rw [if_neg (of_decide_eq_false b8)] at h
                obtain ⟨t9, ht9, h⟩ := of_bind h
                refine ⟨t9, ⟨halterref29_whens.fun_ ht9, trivial⟩, ?_⟩
                obtain ⟨g28, h⟩ := of_guard h
                refine ⟨g28, ?_⟩
                obtain ⟨g27, h⟩ := of_guard h
                refine ⟨g27, ?_⟩
                refine ⟨trivial, ?_⟩
                refine ⟨fun b10 => ?_, fun b10 => ?_⟩
                · rw [if_pos (of_decide_eq_true b10)] at h
                  obtain ⟨g19, h⟩ := of_guard h
                  refine ⟨g19, ?_⟩
                  obtain ⟨g18, h⟩ := of_guard h
                  refine ⟨g18, ?_⟩
                  refine ⟨trivial, ?_⟩
                  obtain ⟨g17, h⟩ := of_guard h
                  refine ⟨g17, ?_⟩
                  obtain ⟨g16, h⟩ := of_guard h
                  refine ⟨g16, ?_⟩
                  refine ⟨trivial, ?_⟩
                  refine ⟨fun b11 => ?_, fun b11 => ?_⟩
                  · rw [if_pos (of_decide_eq_true b11)] at h
                    refine ⟨trivial, ?_⟩
                    obtain ⟨g14, h⟩ := of_guard h
                    refine ⟨g14, ?_⟩
                    obtain ⟨g13, h⟩ := of_guard h
                    refine ⟨g13, ?_⟩
                    obtain ⟨t12, ht12, h⟩ := of_bind h
                    refine ⟨t12, ⟨(by decide), halterref29_list.fun_ ht12, trivial⟩, ?_⟩
                    refine ⟨trivial, ?_⟩
                    obtain rfl := Option.some.inj h
                    exact ⟨trivial, ⟨trivial, trivial⟩, rfl, rfl⟩
                  · rw [if_neg (of_decide_eq_false b11)] at h
                    obtain ⟨t15, ht15, h⟩ := of_bind h
                    refine ⟨t15, ⟨(by decide), halterref29_list.fun_ ht15, trivial⟩, ?_⟩
                    refine ⟨trivial, ?_⟩
                    obtain rfl := Option.some.inj h
                    exact ⟨trivial, ⟨trivial, trivial⟩, rfl, rfl⟩
                · rw [if_neg (of_decide_eq_false b10)] at h
                  obtain ⟨g26, h⟩ := of_guard h
                  refine ⟨g26, ?_⟩
                  obtain ⟨g25, h⟩ := of_guard h
                  refine ⟨g25, ?_⟩
                  refine ⟨trivial, ?_⟩
                  refine ⟨fun b20 => ?_, fun b20 => ?_⟩
                  · rw [if_pos (of_decide_eq_true b20)] at h
                    refine ⟨trivial, ?_⟩
                    obtain ⟨g23, h⟩ := of_guard h
                    refine ⟨g23, ?_⟩
                    obtain ⟨g22, h⟩ := of_guard h
                    refine ⟨g22, ?_⟩
                    obtain ⟨t21, ht21, h⟩ := of_bind h
                    refine ⟨t21, ⟨(by decide), halterref29_list.fun_ ht21, trivial⟩, ?_⟩
                    refine ⟨trivial, ?_⟩
                    obtain rfl := Option.some.inj h
                    exact ⟨trivial, ⟨trivial, trivial⟩, rfl, rfl⟩
                  · rw [if_neg (of_decide_eq_false b20)] at h
                    obtain ⟨t24, ht24, h⟩ := of_bind h
                    refine ⟨t24, ⟨(by decide), halterref29_list.fun_ ht24, trivial⟩, ?_⟩
                    refine ⟨trivial, ?_⟩
                    obtain rfl := Option.some.inj h
                    exact ⟨trivial, ⟨trivial, trivial⟩, rfl, rfl⟩
            · rw [if_pos (of_decide_eq_true b7)] at h
              refine ⟨b7, ?_⟩
              refine ⟨b7, ?_⟩
              refine ⟨rfl, trivial, trivial, ?_⟩
              obtain rfl := Option.some.inj h
              exact ⟨trivial, ⟨trivial, trivial⟩, rfl, rfl⟩
          · rw [if_pos (of_decide_eq_true b6)] at h
            refine ⟨b6, ?_⟩
            refine ⟨b6, ?_⟩
            refine ⟨rfl, rfl, rfl, rfl, trivial, trivial, ?_⟩
            obtain rfl := Option.some.inj h
            exact ⟨trivial, ⟨trivial, trivial⟩, rfl, rfl⟩
        · rw [if_pos (of_decide_eq_true b5)] at h
          refine ⟨b5, ?_⟩
          refine ⟨b5, ?_⟩
          refine ⟨rfl, rfl, rfl, rfl, rfl, rfl, rfl, trivial, trivial, ?_⟩
          obtain rfl := Option.some.inj h
          exact ⟨trivial, ⟨trivial, trivial⟩, rfl, rfl⟩
      · rw [if_pos (of_decide_eq_true b4)] at h
        refine ⟨b4, ?_⟩
        refine ⟨b4, ?_⟩
        refine ⟨rfl, rfl, rfl, rfl, rfl, rfl, rfl, rfl, rfl, rfl, trivial, trivial, ?_⟩
        obtain rfl := Option.some.inj h
        exact ⟨trivial, ⟨trivial, trivial⟩, rfl, rfl⟩
    · rw [if_pos (of_decide_eq_true b3)] at h
      refine ⟨b3, ?_⟩
      refine ⟨b3, ?_⟩
      refine ⟨rfl, rfl, rfl, rfl, rfl, rfl, rfl, rfl, rfl, rfl, rfl, rfl, rfl, trivial, trivial, ?_⟩
      obtain rfl := Option.some.inj h
      exact ⟨trivial, ⟨trivial, trivial⟩, rfl, rfl⟩
  · rw [if_pos (ff (not_t b2))] at h
    refine ⟨b2, ?_⟩
    refine ⟨b2, ?_⟩
    refine ⟨rfl, rfl, rfl, rfl, rfl, rfl, rfl, rfl, rfl, rfl, rfl, rfl, rfl, rfl, rfl, rfl, trivial, trivial, ?_⟩
    obtain rfl := Option.some.inj h
    exact ⟨trivial, ⟨trivial, trivial⟩, rfl, rfl⟩
/-! halter/halterref29.Due -/
def halterref29_Due.l0 (a1 : Int) : Nat → (List Int) → (List Int) → Int → Option ((List Int) × (List Int))
  | 0, _, _, _ => none
  | n + 1, x28, x29, x30 =>
    if x30 < (100 : Int) then
      if 0 ≤ x30 ∧ x30 < ((100 : Nat) : Int) then
        if (0 + (Int.toNat x30)) < 100 then
          if (List.getD x28 (0 + (Int.toNat x30)) (0 : Int)) > (0 : Int) then
            if 0 ≤ x30 ∧ x30 < ((100 : Nat) : Int) then
              if (0 + (Int.toNat x30)) < 100 then
                if (List.getD x28 (0 + (Int.toNat x30)) (0 : Int)) ≤ a1 then
                  if (0 = 0 ∧ 1 = 1) ∧ 0 = 0 ∧ (List.length x29) = (List.length x29) ∧ (((List.length x29) + 1) * 8 ≤ 140737488355328 ∧ (List.length x29) + 1 ≤ 9223372036854775807) then
                    if 0 ≤ x30 ∧ x30 < ((100 : Nat) : Int) then
                      if (0 + (Int.toNat x30)) < 100 then
                        halterref29_Due.l0 a1 n (List.set x28 (0 + (Int.toNat x30)) (0 : Int)) (x29 ++ [x30]) (IntKind.wrap .i64 (x30 + (1 : Int)))
                      else none
                    else none
                  else none
                else
                  halterref29_Due.l0 a1 n x28 x29 (IntKind.wrap .i64 (x30 + (1 : Int)))
              else none
            else none
          else
            halterref29_Due.l0 a1 n x28 x29 (IntKind.wrap .i64 (x30 + (1 : Int)))
        else none
      else none
    else
      some (x28, x29)
def halterref29_Due.l0_S (a1 : Int) (x28 : List Int) (x29 : List Int) (x30 : Int) : St := ⟨[.any, .v (.one (.sc (.int .i64 a1))), .any, .any, .any, .any, .any, .v (.one (.os 0 0 0 1 100 none)), .v (.one (.os 1 0 0 1 (List.length x29) none)), .v (.one (.sc (.int .i64 x30))), .any, .any, .any, .any, .any, .any, .any, .any, .any, .any, .any, .any, .any, .any, .any, .any, .any, .any, .any, .any, .any, .any, .any, .any, .any, .any, .any, .any, .any, .any, .any, .any, .any, .any, .any, .any, .any, .any, .any, .any], [.ex false [.row 100 (.int .i64) x28] 3, .gro false (.int .i64) x29 3], 0⟩
def halterref29_Due.l0_Q (a1 : Int) (t : (List Int) × (List Int)) : Exit → St → Prop := fun e s => e = (.exit 0) ∧ s = ⟨[.any, .any, .any, .any, .any, .any, .any, .v (.one (.os 0 0 0 1 100 none)), .v (.one (.os 1 0 0 1 (List.length t.2) none)), .any, .any, .any, .any, .any, .any, .any, .any, .any, .any, .any, .any, .any, .any, .any, .any, .any, .any, .any, .any, .any, .any, .any, .any, .any, .any, .any, .any, .any, .any, .any, .any, .any, .any, .any, .any, .any, .any, .any, .any, .any], [.ex false [.row 100 (.int .i64) t.1] 3, .gro false (.int .i64) t.2 3], 0⟩
theorem halterref29_Due.l0_ok (a1 : Int) : ∀ (n : Nat) (x28 : List Int) (x29 : List Int) (x30 : Int) (r : (List Int) × (List Int)), halterref29_Due.l0 a1 n x28 x29 x30 = some r → TripN cfg (cpath (Tryd.f9.body.getD .skip) [1, 1, 1, 1, 0, 1, 0, 0]) n (halterref29_Due.l0_S a1 x28 x29 x30) (halterref29_Due.l0_Q a1 r) := by
  intro n
  induction n with
  | zero => intro x28 x29 x30 r h; cases h
  | succ n ih =>
    intro x28 x29 x30 r h
    rw [halterref29_Due.l0] at h
    refine TripN.of_run cfg_ok (k := (.br (.br (oT 6 (.br (.d .no (.d (.b true) (aE 2 (.adj [.keep [1, 7, 8, 9], .drop 2] .nil)))) (aE 2 (.adj [.keep [1, 7, 8, 9], .drop 2] .nil)))) (oF 7 (aE 2 (.adj [.keep [1, 7, 8, 9], .drop 2] .nil)))) (.adj [.keep [7, 8], .drop 2] .nil))) (to_goal (q := (True) ∧ (((decide (x30 < (100 : Int))) = true → (0 ≤ x30 ∧ x30 < ((100 : Nat) : Int)) ∧ ((0 + (Int.toNat x30)) < 100) ∧ (True) ∧ (((decide ((List.getD x28 (0 + (Int.toNat x30)) (0 : Int)) > (0 : Int))) = true → ((decide ((List.getD x28 (0 + (Int.toNat x30)) (0 : Int)) > (0 : Int))) = true ∧ ((decide ((List.getD x28 (0 + (Int.toNat x30)) (0 : Int)) > (0 : Int))) = true ∧ (0 ≤ x30 ∧ x30 < ((100 : Nat) : Int)) ∧ ((decide ((List.getD x28 (0 + (Int.toNat x30)) (0 : Int)) > (0 : Int))) = true ∧ ((0 + (Int.toNat x30)) < 100) ∧ ((decide ((List.getD x28 (0 + (Int.toNat x30)) (0 : Int)) > (0 : Int))) = true ∧ ((decide ((List.getD x28 (0 + (Int.toNat x30)) (0 : Int)) > (0 : Int))) = true ∧ (True) ∧ ((decide ((List.getD x28 (0 + (Int.toNat x30)) (0 : Int)) > (0 : Int))) = true ∧ (((decide ((List.getD x28 (0 + (Int.toNat x30)) (0 : Int)) ≤ a1)) = true → ((0 = 0 ∧ 1 = 1) ∧ 0 = 0 ∧ (List.length x29) = (List.length x29) ∧ (((List.length x29) + 1) * 8 ≤ 140737488355328 ∧ (List.length x29) + 1 ≤ 9223372036854775807)) ∧ (True ∧ (0 ≤ x30 ∧ x30 < ((100 : Nat) : Int)) ∧ ((0 + (Int.toNat x30)) < 100) ∧ (True ∧ (True) ∧ (((True) ∧ (True) ∧ True) ∧ TripN cfg (cpath (Tryd.f9.body.getD .skip) [1, 1, 1, 1, 0, 1, 0, 0]) n (halterref29_Due.l0_S a1 (List.set x28 (0 + (Int.toNat x30)) (0 : Int)) (x29 ++ [x30]) (IntKind.wrap .i64 (x30 + (1 : Int)))) (halterref29_Due.l0_Q a1 r))))) ∧ ((decide ((List.getD x28 (0 + (Int.toNat x30)) (0 : Int)) ≤ a1)) = false → (True ∧ (True ∧ (True) ∧ (((True) ∧ (True) ∧ True) ∧ TripN cfg (cpath (Tryd.f9.body.getD .skip) [1, 1, 1, 1, 0, 1, 0, 0]) n (halterref29_Due.l0_S a1 x28 x29 (IntKind.wrap .i64 (x30 + (1 : Int)))) (halterref29_Due.l0_Q a1 r))))))))))))) ∧ ((decide ((List.getD x28 (0 + (Int.toNat x30)) (0 : Int)) > (0 : Int))) = false → ((decide ((List.getD x28 (0 + (Int.toNat x30)) (0 : Int)) > (0 : Int))) = false ∧ ((decide ((List.getD x28 (0 + (Int.toNat x30)) (0 : Int)) > (0 : Int))) = false ∧ ((decide ((List.getD x28 (0 + (Int.toNat x30)) (0 : Int)) > (0 : Int))) = false ∧ ((decide ((List.getD x28 (0 + (Int.toNat x30)) (0 : Int)) > (0 : Int))) = false ∧ ((decide ((List.getD x28 (0 + (Int.toNat x30)) (0 : Int)) > (0 : Int))) = false ∧ ((decide ((List.getD x28 (0 + (Int.toNat x30)) (0 : Int)) > (0 : Int))) = false ∧ (false = false ∧ (True ∧ (True ∧ (True) ∧ (((True) ∧ (True) ∧ True) ∧ TripN cfg (cpath (Tryd.f9.body.getD .skip) [1, 1, 1, 1, 0, 1, 0, 0]) n (halterref29_Due.l0_S a1 x28 x29 (IntKind.wrap .i64 (x30 + (1 : Int)))) (halterref29_Due.l0_Q a1 r)))))))))))))) ∧ ((decide (x30 < (100 : Int))) = false → (((True) ∧ (True) ∧ True) ∧ halterref29_Due.l0_Q a1 r (.exit 0) ⟨[.any, .any, .any, .any, .any, .any, .any, .v (.one (.os 0 0 0 1 100 none)), .v (.one (.os 1 0 0 1 (List.length x29) none)), .any, .any, .any, .any, .any, .any, .any, .any, .any, .any, .any, .any, .any, .any, .any, .any, .any, .any, .any, .any, .any, .any, .any, .any, .any, .any, .any, .any, .any, .any, .any, .any, .any, .any, .any, .any, .any, .any, .any, .any, .any], [.ex false [.row 100 (.int .i64) x28] 3, .gro false (.int .i64) x29 3], 0⟩)))) (by kernel_rfl) ?_)
    refine ⟨trivial, ?_⟩
    refine ⟨fun b44 => ?_, fun b44 => ?_⟩
    · rw [if_pos (of_decide_eq_true b44)] at h
      obtain ⟨g53, h⟩ := of_guard h
      refine ⟨g53, ?_⟩
      obtain ⟨g52, h⟩ := of_guard h
      refine ⟨g52, ?_⟩
      refine ⟨trivial, ?_⟩
      refine ⟨fun b45 => ?_, fun b45 => ?_⟩
      · rw [if_pos (of_decide_eq_true b45)] at h
        refine ⟨b45, ?_⟩
        refine ⟨b45, ?_⟩
        obtain ⟨g51, h⟩ := of_guard h
        refine ⟨g51, ?_⟩
        refine ⟨b45, ?_⟩
        obtain ⟨g50, h⟩ := of_guard h
        refine ⟨g50, ?_⟩
        refine ⟨b45, ?_⟩
        refine ⟨b45, ?_⟩
        refine ⟨trivial, ?_⟩
        refine ⟨b45, ?_⟩
        refine ⟨fun b46 => ?_, fun b46 => ?_⟩
        · rw [if_pos (of_decide_eq_true b46)] at h
          obtain ⟨g49, h⟩ := of_guard h
          refine ⟨g49, ?_⟩
          refine ⟨trivial, ?_⟩
          obtain ⟨g48, h⟩ := of_guard h
          refine ⟨g48, ?_⟩
          obtain ⟨g47, h⟩ := of_guard h
          refine ⟨g47, ?_⟩
          refine ⟨trivial, trivial, ?_⟩
          exact ⟨⟨trivial, trivial, trivial⟩, ih (List.set x28 (0 + (Int.toNat x30)) (0 : Int)) (x29 ++ [x30]) (IntKind.wrap .i64 (x30 + (1 : Int))) r h⟩
        · rw [if_neg (of_decide_eq_false b46)] at h
          refine ⟨trivial, trivial, trivial, ?_⟩
          exact ⟨⟨trivial, trivial, trivial⟩, ih x28 x29 (IntKind.wrap .i64 (x30 + (1 : Int))) r h⟩
      · rw [if_neg (of_decide_eq_false b45)] at h
        refine ⟨b45, ?_⟩
        refine ⟨b45, ?_⟩
        refine ⟨b45, ?_⟩
        refine ⟨b45, ?_⟩
        refine ⟨b45, ?_⟩
        refine ⟨b45, ?_⟩
        refine ⟨rfl, trivial, trivial, trivial, ?_⟩
        exact ⟨⟨trivial, trivial, trivial⟩, ih x28 x29 (IntKind.wrap .i64 (x30 + (1 : Int))) r h⟩
    · rw [if_neg (of_decide_eq_false b44)] at h
      obtain rfl := Option.some.inj h
      exact ⟨⟨trivial, trivial, trivial⟩, rfl, rfl⟩
def halterref29_Due.f (a0 : (List (Int × Int))) (a1 : Int) : Option ((List Int) × (List (Int × Int)) × Int) :=
  (halterref29_May.f a0).bind fun t1 =>
  if ¬ (t1 = true) then
    some (([] : List Int), ([] : List (Int × Int)), (22 : Int))
  else
    if a1 < (0 : Int) then
      some (([] : List Int), ([] : List (Int × Int)), (22 : Int))
    else
      if a1 > (549755813888 : Int) then
        some (([] : List Int), ([] : List (Int × Int)), (22 : Int))
      else
        (halterref29_whens.f a0).bind fun t5 =>
        (halterref29_Due.l0 a1 FUEL t5 ([] : List Int) (1 : Int)).bind fun t43 =>
        (halterref29_list.f (List.take 100 t43.1)).bind fun t58 =>
        some (t43.2, t58, (0 : Int))
def halterref29_Due.R (r : (List Int) × (List (Int × Int)) × Int) : Tm := .tup [.one (.fs (.int .i64) r.1 false), .one (.fs (.pair (.int .i64) (.int .i64)) r.2.1 false), .one (.sc (.int .i64 r.2.2))]
theorem halterref29_Due.fun_ {a0 : (List (Int × Int))} {a1 : Int} {r : (List Int) × (List (Int × Int)) × Int} (h : halterref29_Due.f a0 a1 = some r) : Fun cfg 9 [.one (.fs (.pair (.int .i64) (.int .i64)) a0 false), .one (.sc (.int .i64 a1))] [] (halterref29_Due.R r) [] := by
  unfold halterref29_Due.f at h
  refine fun_of_run cfg_ok (f := 9) (fn := Tryd.f9) Tryd.func9 rfl (by kernel_rfl) (rs := [.tmp 4, .tmp 5, .tmp 6]) rfl (nt := 50) rfl (l := fin) (k := (.call true [] (Bool) halterref29_May.R (fun t1 => (.br (oT 6 (aE 2 (.adj [.co 0 true [(.int .i64)], .co 1 true [(.pair (.int .i64) (.int .i64))]] .nil))) (oF 2 (.br (oT 3 (aE 2 (.adj [.co 0 true [(.int .i64)], .co 1 true [(.pair (.int .i64) (.int .i64))]] .nil))) (oF 2 (.br (aE 2 (.adj [.co 0 true [(.int .i64)], .co 1 true [(.pair (.int .i64) (.int .i64))]] .nil)) (.callR true [] [] ((List Int)) (fun t5 => (halterref29_whens.R t5)) (fun t5 => (halterref29_whens.B a0 t5)) (fun t5 => (aE 3 (.adj [.keep [1, 7, 8, 9], .nilGro 8 (.int .i64) 3] (.sub ((List Int) × (List Int)) (fun _ => (.exit 0)) (fun t43 => ⟨[.any, .any, .any, .any, .any, .any, .any, .v (.one (.os 0 0 0 1 100 none)), .v (.one (.os 1 0 0 1 (List.length t43.2) none)), .any, .any, .any, .any, .any, .any, .any, .any, .any, .any, .any, .any, .any, .any, .any, .any, .any, .any, .any, .any, .any, .any, .any, .any, .any, .any, .any, .any, .any, .any, .any, .any, .any, .any, .any, .any, .any, .any, .any, .any, .any], [.ex false [.row 100 (.int .i64) t43.1] 3, .gro false (.int .i64) t43.2 3], 0⟩) (fun t43 => (.call false [] ((List (Int × Int))) halterref29_list.R (fun t58 => (.adj [] (.adj [.co 0 true [], .drop 0] .nil)))))))))))))))))) (to_goal (q := (∃ t1 : Bool, (Fun cfg 14 [.one (.fs (.pair (.int .i64) (.int .i64)) a0 false)] [] (halterref29_May.R t1) [] ∧ True) ∧ (((!t1) = false → ((!t1) = false ∧ (True) ∧ ((!t1) = false ∧ (((decide (a1 < (0 : Int))) = false → ((decide (a1 < (0 : Int))) = false ∧ (True) ∧ ((decide (a1 < (0 : Int))) = false ∧ (((decide (a1 > (549755813888 : Int))) = true → (True ∧ (True ∧ ((True) ∧ ((True) ∧ (True) ∧ True) ∧ (.tup [.one (.fs (.int .i64) ([] : List Int) false), .one (.fs (.pair (.int .i64) (.int .i64)) ([] : List (Int × Int)) false), .one (.sc (.int .i64 (22 : Int)))] : Tm) = halterref29_Due.R r ∧ ([] : List Box) = [])))) ∧ ((decide (a1 > (549755813888 : Int))) = false → (∃ t5 : (List Int), (Fun cfg 23 [.one (.fs (.pair (.int .i64) (.int .i64)) a0 false)] [] (halterref29_whens.R t5) (halterref29_whens.B a0 t5) ∧ True) ∧ (True ∧ (True ∧ (True ∧ (((True) ∧ (True) ∧ True) ∧ (∃ t43 : (List Int) × (List Int), Trip cfg (.loop (cpath (Tryd.f9.body.getD .skip) [1, 1, 1, 1, 0, 1, 0, 0])) ⟨[.any, .v (.one (.sc (.int .i64 a1))), .any, .any, .any, .any, .any, .v (.one (.os 0 0 0 1 100 none)), .v (.one (.os 1 0 0 1 0 none)), .v (.one (.sc (.int .i64 (1 : Int)))), .any, .any, .any, .any, .any, .any, .any, .any, .any, .any, .any, .any, .any, .any, .any, .any, .any, .any, .any, .any, .any, .any, .any, .any, .any, .any, .any, .any, .any, .any, .any, .any, .any, .any, .any, .any, .any, .any, .any, .any], [.ex false [.row 100 (.int .i64) t5] 3, .gro false (.int .i64) ([] : List Int) 3], 0⟩ (fun e s => e = (.exit 0) ∧ s = ⟨[.any, .any, .any, .any, .any, .any, .any, .v (.one (.os 0 0 0 1 100 none)), .v (.one (.os 1 0 0 1 (List.length t43.2) none)), .any, .any, .any, .any, .any, .any, .any, .any, .any, .any, .any, .any, .any, .any, .any, .any, .any, .any, .any, .any, .any, .any, .any, .any, .any, .any, .any, .any, .any, .any, .any, .any, .any, .any, .any, .any, .any, .any, .any, .any, .any], [.ex false [.row 100 (.int .i64) t43.1] 3, .gro false (.int .i64) t43.2 3], 0⟩) ∧ (∃ t58 : (List (Int × Int)), ((0 + 100 ≤ 100) ∧ Fun cfg 24 [.one (.fs (.int .i64) (List.take 100 t43.1) false)] [] (halterref29_list.R t58) [] ∧ True) ∧ (True ∧ ((True) ∧ ((((0 = 0 ∧ (List.length t43.2) = (List.length t43.2))) ∧ True) ∧ (True) ∧ True) ∧ (.tup [.one (.fs (.int .i64) t43.2 false), .one (.fs (.pair (.int .i64) (.int .i64)) t58 false), .one (.sc (.int .i64 (0 : Int)))] : Tm) = halterref29_Due.R r ∧ ([] : List Box) = [])))))))))))))) ∧ ((decide (a1 < (0 : Int))) = true → ((decide (a1 < (0 : Int))) = true ∧ ((decide (a1 < (0 : Int))) = true ∧ (true = true ∧ (True ∧ (True ∧ ((True) ∧ ((True) ∧ (True) ∧ True) ∧ (.tup [.one (.fs (.int .i64) ([] : List Int) false), .one (.fs (.pair (.int .i64) (.int .i64)) ([] : List (Int × Int)) false), .one (.sc (.int .i64 (22 : Int)))] : Tm) = halterref29_Due.R r ∧ ([] : List Box) = []))))))))))) ∧ ((!t1) = true → ((!t1) = true ∧ ((!t1) = true ∧ (true = true ∧ (true = true ∧ (true = true ∧ (true = true ∧ (True ∧ (True ∧ ((True) ∧ ((True) ∧ (True) ∧ True) ∧ (.tup [.one (.fs (.int .i64) ([] : List Int) false), .one (.fs (.pair (.int .i64) (.int .i64)) ([] : List (Int × Int)) false), .one (.sc (.int .i64 (22 : Int)))] : Tm) = halterref29_Due.R r ∧ ([] : List Box) = []))))))))))))) (by kernel_rfl) ?_)
  obtain ⟨t1, ht1, h⟩ := of_bind h
  refine ⟨t1, ⟨halterref29_May.fun_ ht1, trivial⟩, ?_⟩
  refine ⟨fun b2 => ?_, fun b2 => ?_⟩
  · rw [if_neg (not_not_intro (not_f b2))] at h
    refine ⟨b2, ?_⟩
    refine ⟨trivial, ?_⟩
    refine ⟨b2, ?_⟩
    refine ⟨fun b3 => ?_, fun b3 => ?_⟩
    · rw [if_neg (of_decide_eq_false b3)] at h
      refine ⟨b3, ?_⟩
      refine ⟨trivial, ?_⟩
      refine ⟨b3, ?_⟩
      refine ⟨fun b4 => ?_, fun b4 => ?_⟩
      · rw [if_pos (of_decide_eq_true b4)] at h
        refine ⟨trivial, trivial, ?_⟩
        obtain rfl := Option.some.inj h
        exact ⟨trivial, ⟨trivial, trivial, trivial⟩, rfl, rfl⟩
      · rw [if_neg (of_decide_eq_false b4)] at h
        obtain ⟨t5, ht5, h⟩ := of_bind h
        refine ⟨t5, ⟨halterref29_whens.fun_ ht5, trivial⟩, ?_⟩
        refine ⟨trivial, trivial, trivial, ?_⟩
        obtain ⟨t43, ht43, h⟩ := of_bind h
        refine ⟨⟨trivial, trivial, trivial⟩, t43, Trip.loop FUEL (halterref29_Due.l0_ok a1 FUEL t5 ([] : List Int) (1 : Int) t43 ht43), ?_⟩
        obtain ⟨t58, ht58, h⟩ := of_bind h
        refine ⟨t58, ⟨(by decide), halterref29_list.fun_ ht58, trivial⟩, ?_⟩
        refine ⟨trivial, ?_⟩
        obtain rfl := Option.some.inj h
        exact ⟨trivial, ⟨⟨⟨rfl, rfl⟩, trivial⟩, trivial, trivial⟩, rfl, rfl⟩
    · rw [if_pos (of_decide_eq_true b3)] at h
      refine ⟨b3, ?_⟩
      refine ⟨b3, ?_⟩
      refine ⟨rfl, trivial, trivial, ?_⟩
      obtain rfl := Option.some.inj h
      exact ⟨trivial, ⟨trivial, trivial, trivial⟩, rfl, rfl⟩
  · rw [if_pos (ff (not_t b2))] at h
    refine ⟨b2, ?_⟩
    refine ⟨b2, ?_⟩
    refine ⟨rfl, rfl, rfl, rfl, trivial, trivial, ?_⟩
    obtain rfl := Option.some.inj h
    exact ⟨trivial, ⟨trivial, trivial, trivial⟩, rfl, rfl⟩
/-! halter/halterlaw29.same -/
def halterlaw29_same.c0 (a0 : (List (Int × Int))) (x2 : Int) (a1 : (List (Int × Int))) : Bool := (!(((List.getD a0 (Int.toNat x2) ((0 : Int), (0 : Int))).1 == (List.getD a1 (Int.toNat x2) ((0 : Int), (0 : Int))).1) && (((List.getD a0 (Int.toNat x2) ((0 : Int), (0 : Int))).2 == (List.getD a1 (Int.toNat x2) ((0 : Int), (0 : Int))).2) && true)))
def halterlaw29_same.l0 (a0 : (List (Int × Int))) (a1 : (List (Int × Int))) : Nat → Int → Option ((Unit) ⊕ (Unit))
  | 0, _ => none
  | n + 1, x2 =>
    if x2 < (((List.length a0) : Nat) : Int) then
      if 0 ≤ x2 ∧ x2 < (((List.length a0) : Nat) : Int) then
        if 0 ≤ x2 ∧ x2 < (((List.length a1) : Nat) : Int) then
          if ¬ (((List.getD a0 (Int.toNat x2) ((0 : Int), (0 : Int))).1 = (List.getD a1 (Int.toNat x2) ((0 : Int), (0 : Int))).1 ∧ (List.getD a0 (Int.toNat x2) ((0 : Int), (0 : Int))).2 = (List.getD a1 (Int.toNat x2) ((0 : Int), (0 : Int))).2)) then
            some (.inr ())
          else
            halterlaw29_same.l0 a0 a1 n (IntKind.wrap .i64 (x2 + (1 : Int)))
        else none
      else none
    else
      some (.inl ())
def halterlaw29_same.l0_S (a0 : (List (Int × Int))) (a1 : (List (Int × Int))) (x2 : Int) : St := ⟨[.v (.one (.fs (.pair (.int .i64) (.int .i64)) a0 false)), .v (.one (.fs (.pair (.int .i64) (.int .i64)) a1 false)), .any, .any, .any, .v (.one (.sc (.int .i64 x2))), .any, .any, .any, .any, .any, .any, .any, .any, .any, .any, .any, .any, .any, .any, .any, .any, .any, .any, .any, .any], [], 0⟩
def halterlaw29_same.l0_Q (a0 : (List (Int × Int))) (a1 : (List (Int × Int))) : (Unit) ⊕ (Unit) → Exit → St → Prop
  | .inl t => fun e s => e = (.exit 0) ∧ s = ⟨[.any, .any, .any, .any, .any, .any, .any, .any, .any, .any, .any, .any, .any, .any, .any, .any, .any, .any, .any, .any, .any, .any, .any, .any, .any, .any], [], 0⟩
  | .inr t => fun e s => e = .ret ∧ s = ⟨[.any, .any, .any, .any, .v (.one (.sc (.bool false))), .any, .any, .any, .any, .any, .any, .any, .any, .any, .any, .any, .any, .any, .any, .any, .any, .any, .any, .any, .any, .any], [], 0⟩
theorem halterlaw29_same.l0_ok (a0 : (List (Int × Int))) (a1 : (List (Int × Int))) : ∀ (n : Nat) (x2 : Int) (r : (Unit) ⊕ (Unit)), halterlaw29_same.l0 a0 a1 n x2 = some r → TripN cfg (cpath (Tryd.f10.body.getD .skip) [1, 1, 0, 1, 0, 0]) n (halterlaw29_same.l0_S a0 a1 x2) (halterlaw29_same.l0_Q a0 a1 r) := by
  intro n
  induction n with
  | zero => intro x2 r h; cases h
  | succ n ih =>
    intro x2 r h
    rw [halterlaw29_same.l0] at h
    refine TripN.of_run cfg_ok (k := (.br (.dr [(0, dN), (1, dN), (2, dN), (4, dN), (5, dN), (6, dN), (3, dN), (7, dN), (8, dN)] (.br (.adj [] (.adj [.keep [4], .drop 0] .nil)) (aE 2 (.adj [.keep [0, 1, 5], .drop 0] .nil)))) (.adj [.keep [], .drop 0] .nil))) (to_goal (q := (True) ∧ (True) ∧ (((decide (x2 < (((List.length a0) : Nat) : Int))) = true → (0 ≤ x2 ∧ x2 < (((List.length a0) : Nat) : Int)) ∧ (0 ≤ x2 ∧ x2 < (((List.length a1) : Nat) : Int)) ∧ (True) ∧ (True) ∧ (True) ∧ (((halterlaw29_same.c0 a0 x2 a1) = true → (True ∧ (((True) ∧ (True) ∧ True) ∧ halterlaw29_same.l0_Q a0 a1 r .ret ⟨[.any, .any, .any, .any, .v (.one (.sc (.bool false))), .any, .any, .any, .any, .any, .any, .any, .any, .any, .any, .any, .any, .any, .any, .any, .any, .any, .any, .any, .any, .any], [], 0⟩))) ∧ ((halterlaw29_same.c0 a0 x2 a1) = false → (True ∧ (True ∧ (True) ∧ (((True) ∧ (True) ∧ True) ∧ TripN cfg (cpath (Tryd.f10.body.getD .skip) [1, 1, 0, 1, 0, 0]) n (halterlaw29_same.l0_S a0 a1 (IntKind.wrap .i64 (x2 + (1 : Int)))) (halterlaw29_same.l0_Q a0 a1 r))))))) ∧ ((decide (x2 < (((List.length a0) : Nat) : Int))) = false → (((True) ∧ (True) ∧ True) ∧ halterlaw29_same.l0_Q a0 a1 r (.exit 0) ⟨[.any, .any, .any, .any, .any, .any, .any, .any, .any, .any, .any, .any, .any, .any, .any, .any, .any, .any, .any, .any, .any, .any, .any, .any, .any, .any], [], 0⟩)))) (by kernel_rfl) ?_)
    refine ⟨trivial, trivial, ?_⟩
    refine ⟨fun b8 => ?_, fun b8 => ?_⟩
    · rw [if_pos (of_decide_eq_true b8)] at h
      obtain ⟨g9, h⟩ := of_guard h
      obtain ⟨g10, h⟩ := of_guard h
      refine ⟨g9, g10, trivial, trivial, trivial, ?_⟩
      refine ⟨fun b11 => ?_, fun b11 => ?_⟩
      · rw [if_pos (and_f (fun h => (beq_f h)) (fun h => (beq_f (and_l0 h))) (not_t b11))] at h
        refine ⟨trivial, ?_⟩
        obtain rfl := Option.some.inj h
        exact ⟨⟨trivial, trivial, trivial⟩, rfl, rfl⟩
      · rw [if_neg (not_not_intro (and_t (fun h => (beq_t h)) (fun h => (beq_t (and_l h))) (not_f b11)))] at h
        refine ⟨trivial, trivial, trivial, ?_⟩
        exact ⟨⟨trivial, trivial, trivial⟩, ih (IntKind.wrap .i64 (x2 + (1 : Int))) r h⟩
    · rw [if_neg (of_decide_eq_false b8)] at h
      obtain rfl := Option.some.inj h
      exact ⟨⟨trivial, trivial, trivial⟩, rfl, rfl⟩
def halterlaw29_same.f (a0 : (List (Int × Int))) (a1 : (List (Int × Int))) : Option Bool :=
  if ¬ (((List.length a0) : Nat) : Int) = (((List.length a1) : Nat) : Int) then
    some false
  else
    (halterlaw29_same.l0 a0 a1 FUEL (0 : Int)).bind fun t7 =>
    match t7 with
    | .inl t12 =>
      some true
    | .inr t13 =>
      some false
def halterlaw29_same.R (r : Bool) : Tm := .v (.one (.sc (.bool r)))
theorem halterlaw29_same.fun_ {a0 : (List (Int × Int))} {a1 : (List (Int × Int))} {r : Bool} (h : halterlaw29_same.f a0 a1 = some r) : Fun cfg 10 [.one (.fs (.pair (.int .i64) (.int .i64)) a0 false), .one (.fs (.pair (.int .i64) (.int .i64)) a1 false)] [] (halterlaw29_same.R r) [] := by
  unfold halterlaw29_same.f at h
  refine fun_of_run cfg_ok (f := 10) (fn := Tryd.f10) Tryd.func10 rfl (by kernel_rfl) (rs := [.tmp 4]) rfl (nt := 26) rfl (l := fin) (k := (.br (aE 3 .nil) (aE 3 (.adj [.keep [0, 1, 5]] (.alt (.sub (Unit) (fun _ => (.exit 0)) (fun t12 => ⟨[.any, .any, .any, .any, .any, .any, .any, .any, .any, .any, .any, .any, .any, .any, .any, .any, .any, .any, .any, .any, .any, .any, .any, .any, .any, .any], [], 0⟩) (fun t12 => (aE 3 .nil))) (.sub (Unit) (fun _ => .ret) (fun t13 => ⟨[.any, .any, .any, .any, .v (.one (.sc (.bool false))), .any, .any, .any, .any, .any, .any, .any, .any, .any, .any, .any, .any, .any, .any, .any, .any, .any, .any, .any, .any, .any], [], 0⟩) (fun t13 => (.adj [] .nil)))))))) (to_goal (q := (True) ∧ (True) ∧ (True) ∧ ((((((List.length a0) : Nat) : Int) != (((List.length a1) : Nat) : Int)) = true → (True ∧ (True ∧ ((True) ∧ (True) ∧ (.v (.one (.sc (.bool false))) : Tm) = halterlaw29_same.R r ∧ ([] : List Box) = [])))) ∧ (((((List.length a0) : Nat) : Int) != (((List.length a1) : Nat) : Int)) = false → (True ∧ (True ∧ (True ∧ (((True) ∧ True) ∧ ((∃ t12 : Unit, Trip cfg (.loop (cpath (Tryd.f10.body.getD .skip) [1, 1, 0, 1, 0, 0])) ⟨[.v (.one (.fs (.pair (.int .i64) (.int .i64)) a0 false)), .v (.one (.fs (.pair (.int .i64) (.int .i64)) a1 false)), .any, .any, .any, .v (.one (.sc (.int .i64 (0 : Int)))), .any, .any, .any, .any, .any, .any, .any, .any, .any, .any, .any, .any, .any, .any, .any, .any, .any, .any, .any, .any], [], 0⟩ (fun e s => e = (.exit 0) ∧ s = ⟨[.any, .any, .any, .any, .any, .any, .any, .any, .any, .any, .any, .any, .any, .any, .any, .any, .any, .any, .any, .any, .any, .any, .any, .any, .any, .any], [], 0⟩) ∧ (True ∧ (True ∧ ((True) ∧ (True) ∧ (.v (.one (.sc (.bool true))) : Tm) = halterlaw29_same.R r ∧ ([] : List Box) = [])))) ∨ (∃ t13 : Unit, Trip cfg (.loop (cpath (Tryd.f10.body.getD .skip) [1, 1, 0, 1, 0, 0])) ⟨[.v (.one (.fs (.pair (.int .i64) (.int .i64)) a0 false)), .v (.one (.fs (.pair (.int .i64) (.int .i64)) a1 false)), .any, .any, .any, .v (.one (.sc (.int .i64 (0 : Int)))), .any, .any, .any, .any, .any, .any, .any, .any, .any, .any, .any, .any, .any, .any, .any, .any, .any, .any, .any, .any], [], 0⟩ (fun e s => e = .ret ∧ s = ⟨[.any, .any, .any, .any, .v (.one (.sc (.bool false))), .any, .any, .any, .any, .any, .any, .any, .any, .any, .any, .any, .any, .any, .any, .any, .any, .any, .any, .any, .any, .any], [], 0⟩) ∧ ((True) ∧ (True) ∧ (.v (.one (.sc (.bool false))) : Tm) = halterlaw29_same.R r ∧ ([] : List Box) = [])))))))))) (by kernel_rfl) ?_)
  refine ⟨trivial, trivial, trivial, ?_⟩
  refine ⟨fun b1 => ?_, fun b1 => ?_⟩
  · rw [if_pos (bne_t b1)] at h
    refine ⟨trivial, trivial, ?_⟩
    obtain rfl := Option.some.inj h
    exact ⟨trivial, trivial, rfl, rfl⟩
  · rw [if_neg (not_not_intro (bne_f b1))] at h
    refine ⟨trivial, trivial, trivial, ?_⟩
    obtain ⟨t7, ht7, h⟩ := of_bind h
    refine ⟨⟨trivial, trivial⟩, ?_⟩
    rcases t7 with t12 | t13
    · dsimp only at h
      left
      refine ⟨t12, Trip.loop FUEL (halterlaw29_same.l0_ok a0 a1 FUEL (0 : Int) (.inl t12) ht7), ?_⟩
      refine ⟨trivial, trivial, ?_⟩
      obtain rfl := Option.some.inj h
      exact ⟨trivial, trivial, rfl, rfl⟩
    · dsimp only at h
      right
      refine ⟨t13, Trip.loop FUEL (halterlaw29_same.l0_ok a0 a1 FUEL (0 : Int) (.inr t13) ht7), ?_⟩
      obtain rfl := Option.some.inj h
      exact ⟨trivial, trivial, rfl, rfl⟩
/-! halter/halterlaw29.AlarmSteps -/
def halterlaw29_AlarmSteps.f (a0 : (List (Int × Int))) (a1 : (List Int)) : Option Bool :=
  if (((List.length a0) : Nat) : Int) > (120 : Int) then
    halterlaw29_sure.f.bind fun t2 =>
    some t2
  else
    (halterlaw29_give.f a0).bind fun t3 =>
    (alarm_Set.f t3 (List.getD a1 0 (0 : Int)) (List.getD a1 1 (0 : Int)) (List.getD a1 2 (0 : Int))).bind fun t4 =>
    (halterref29_Set.f a0 (List.getD a1 0 (0 : Int)) (List.getD a1 1 (0 : Int)) (List.getD a1 2 (0 : Int))).bind fun t5 =>
    (alarm_Due.f t3 (List.getD a1 1 (0 : Int))).bind fun t6 =>
    (halterref29_Due.f a0 (List.getD a1 1 (0 : Int))).bind fun t7 =>
    (halterlaw29_same.f t4.1 t5.1).bind fun t8 =>
    if t8 = true then
      if t4.2.1 = t5.2.1 then
        (num.f t4.2.2).bind fun t11 =>
        if t11 = t5.2.2 then
          (halterlaw29_ints.f t6.1 t7.1).bind fun t13 =>
          if t13 = true then
            (halterlaw29_same.f t6.2.1 t7.2.1).bind fun t15 =>
            if t15 = true then
              (num.f t6.2.2).bind fun t17 =>
              if t17 = t7.2.2 then
                (halterlaw29_same.f t3 a0).bind fun t19 =>
                if t19 = true then
                  (alarm_Check.f t3).bind fun t21 =>
                  (halterref29_May.f a0).bind fun t22 =>
                  if (Option.isNone t21) = t22 then
                    halterlaw29_sure.f.bind fun t24 =>
                    some t24
                  else
                    some false
                else
                  some false
              else
                some false
            else
              some false
          else
            some false
        else
          some false
      else
        some false
    else
      some false
def halterlaw29_AlarmSteps.R (r : Bool) : Tm := .v (.one (.sc (.bool r)))
theorem halterlaw29_AlarmSteps.fun_ {a0 : (List (Int × Int))} {a1 : (List Int)} {r : Bool} (h : halterlaw29_AlarmSteps.f a0 a1 = some r) : Fun cfg 3 [.one (.fs (.pair (.int .i64) (.int .i64)) a0 false), .agg [.row 3 (.int .i64) a1]] [] (halterlaw29_AlarmSteps.R r) [] := by
  unfold halterlaw29_AlarmSteps.f at h
  refine fun_of_run cfg_ok (f := 3) (fn := Tryd.f3) Tryd.func3 rfl (by kernel_rfl) (rs := [.tmp 4]) rfl (nt := 110) rfl (l := fin) (k := (.br (.call true [] (Bool) halterlaw29_sure.R (fun t2 => (.adj [] (.adj [.drop 0] .nil)))) (.call true [] ((List (Int × Int))) halterlaw29_give.R (fun t3 => (.call true [] ((List (Int × Int)) × Int × (Option Int)) alarm_Set.R (fun t4 => (.call true [] ((List (Int × Int)) × Int × Int) halterref29_Set.R (fun t5 => (.call true [] ((List Int) × (List (Int × Int)) × (Option Int)) alarm_Due.R (fun t6 => (.call true [] ((List Int) × (List (Int × Int)) × Int) halterref29_Due.R (fun t7 => (.ex (Bool) (fun t8 => (.emb t8 (.emb (t4.2.1 == t5.2.1) (.ex (Int) (fun t11 => (.emb (t11 == (z2 t5)) (.ex (Bool) (fun t13 => (.emb t13 (.ex (Bool) (fun t15 => (.emb t15 (.ex (Int) (fun t17 => (.emb (t17 == (z2 t7)) (.ex (Bool) (fun t19 => (.emb t19 (.ex ((Option Int)) (fun t21 => (.ex (Bool) (fun t22 => (.emb ((Option.isNone t21) == t22) (.ex (Bool) (fun t24 => (.dr [(0, dN), (1, dN), (2, ⟨none, .callP true [] (halterlaw29_same.R t8), false⟩), (3, dN), (4, dT), (5, dT), (6, dT), (7, d1), (8, dN), (9, dT), (10, ⟨(some true), .callP true [] (num.R t11), false⟩), (11, dT), (12, dT), (13, d1), (14, dN), (15, dT), (16, dT), (17, ⟨(some true), .callP true [] (halterlaw29_ints.R t13), false⟩), (18, d1), (19, dN), (20, dT), (21, dT), (22, ⟨(some true), .callP true [] (halterlaw29_same.R t15), false⟩), (23, d1), (24, dN), (25, dT), (26, ⟨(some true), .callP true [] (num.R t17), false⟩), (27, dT), (28, dT), (29, d1), (30, dN), (31, dT), (32, dT), (33, ⟨(some true), .callP true [] (halterlaw29_same.R t19), false⟩), (34, d1), (35, dN), (36, dT), (39, dT), (37, ⟨(some true), .callP true [] (alarm_Check.R t21), false⟩), (38, dT), (40, ⟨(some true), .callP true [] (halterref29_May.R t22), false⟩), (41, dT), (42, d1), (43, dN), (44, ⟨(some true), .callP true [] (halterlaw29_sure.R t24), false⟩), (45, d1), (46, dN)] (.adj [] (.adj [.drop 0] .nil))))) (.dr [(0, dN), (1, dN), (2, ⟨none, .callP true [] (halterlaw29_same.R t8), false⟩), (3, dN), (4, dT), (5, dT), (6, dT), (7, d1), (8, dN), (9, dT), (10, ⟨(some true), .callP true [] (num.R t11), false⟩), (11, dT), (12, dT), (13, d1), (14, dN), (15, dT), (16, dT), (17, ⟨(some true), .callP true [] (halterlaw29_ints.R t13), false⟩), (18, d1), (19, dN), (20, dT), (21, dT), (22, ⟨(some true), .callP true [] (halterlaw29_same.R t15), false⟩), (23, d1), (24, dN), (25, dT), (26, ⟨(some true), .callP true [] (num.R t17), false⟩), (27, dT), (28, dT), (29, d1), (30, dN), (31, dT), (32, dT), (33, ⟨(some true), .callP true [] (halterlaw29_same.R t19), false⟩), (34, d1), (35, dN), (36, dT), (39, dT), (37, ⟨(some true), .callP true [] (alarm_Check.R t21), false⟩), (38, dT), (40, ⟨(some true), .callP true [] (halterref29_May.R t22), false⟩), (41, dT), (42, d1), (43, dN), (44, dC), (45, d0), (46, dN)] (.adj [] (.adj [.drop 0] .nil)))))))) (.dr [(0, dN), (1, dN), (2, ⟨none, .callP true [] (halterlaw29_same.R t8), false⟩), (3, dN), (4, dT), (5, dT), (6, dT), (7, d1), (8, dN), (9, dT), (10, ⟨(some true), .callP true [] (num.R t11), false⟩), (11, dT), (12, dT), (13, d1), (14, dN), (15, dT), (16, dT), (17, ⟨(some true), .callP true [] (halterlaw29_ints.R t13), false⟩), (18, d1), (19, dN), (20, dT), (21, dT), (22, ⟨(some true), .callP true [] (halterlaw29_same.R t15), false⟩), (23, d1), (24, dN), (25, dT), (26, ⟨(some true), .callP true [] (num.R t17), false⟩), (27, dT), (28, dT), (29, d1), (30, dN), (31, dT), (32, dT), (33, ⟨(some true), .callP true [] (halterlaw29_same.R t19), false⟩), (34, d1), (35, dN), (36, dF), (39, dF), (37, dC), (38, dF), (40, dC), (41, dF), (42, d0), (43, dN), (44, dC), (45, d0), (46, dN)] (.adj [] (.adj [.drop 0] .nil)))))) (.dr [(0, dN), (1, dN), (2, ⟨none, .callP true [] (halterlaw29_same.R t8), false⟩), (3, dN), (4, dT), (5, dT), (6, dT), (7, d1), (8, dN), (9, dT), (10, ⟨(some true), .callP true [] (num.R t11), false⟩), (11, dT), (12, dT), (13, d1), (14, dN), (15, dT), (16, dT), (17, ⟨(some true), .callP true [] (halterlaw29_ints.R t13), false⟩), (18, d1), (19, dN), (20, dT), (21, dT), (22, ⟨(some true), .callP true [] (halterlaw29_same.R t15), false⟩), (23, d1), (24, dN), (25, dT), (26, ⟨(some true), .callP true [] (num.R t17), false⟩), (27, dT), (28, dT), (29, d1), (30, dN), (31, dF), (32, dF), (33, dC), (34, d0), (35, dN), (36, dF), (39, dF), (37, dC), (38, dF), (40, dC), (41, dF), (42, d0), (43, dN), (44, dC), (45, d0), (46, dN)] (.adj [] (.adj [.drop 0] .nil)))))) (.dr [(0, dN), (1, dN), (2, ⟨none, .callP true [] (halterlaw29_same.R t8), false⟩), (3, dN), (4, dT), (5, dT), (6, dT), (7, d1), (8, dN), (9, dT), (10, ⟨(some true), .callP true [] (num.R t11), false⟩), (11, dT), (12, dT), (13, d1), (14, dN), (15, dT), (16, dT), (17, ⟨(some true), .callP true [] (halterlaw29_ints.R t13), false⟩), (18, d1), (19, dN), (20, dT), (21, dT), (22, ⟨(some true), .callP true [] (halterlaw29_same.R t15), false⟩), (23, d1), (24, dN), (25, dF), (26, dC), (27, dF), (28, dF), (29, d0), (30, dN), (31, dF), (32, dF), (33, dC), (34, d0), (35, dN), (36, dF), (39, dF), (37, dC), (38, dF), (40, dC), (41, dF), (42, d0), (43, dN), (44, dC), (45, d0), (46, dN)] (.adj [] (.adj [.drop 0] .nil)))))) (.dr [(0, dN), (1, dN), (2, ⟨none, .callP true [] (halterlaw29_same.R t8), false⟩), (3, dN), (4, dT), (5, dT), (6, dT), (7, d1), (8, dN), (9, dT), (10, ⟨(some true), .callP true [] (num.R t11), false⟩), (11, dT), (12, dT), (13, d1), (14, dN), (15, dT), (16, dT), (17, ⟨(some true), .callP true [] (halterlaw29_ints.R t13), false⟩), (18, d1), (19, dN), (20, dF), (21, dF), (22, dC), (23, d0), (24, dN), (25, dF), (26, dC), (27, dF), (28, dF), (29, d0), (30, dN), (31, dF), (32, dF), (33, dC), (34, d0), (35, dN), (36, dF), (39, dF), (37, dC), (38, dF), (40, dC), (41, dF), (42, d0), (43, dN), (44, dC), (45, d0), (46, dN)] (.adj [] (.adj [.drop 0] .nil)))))) (.dr [(0, dN), (1, dN), (2, ⟨none, .callP true [] (halterlaw29_same.R t8), false⟩), (3, dN), (4, dT), (5, dT), (6, dT), (7, d1), (8, dN), (9, dT), (10, ⟨(some true), .callP true [] (num.R t11), false⟩), (11, dT), (12, dT), (13, d1), (14, dN), (15, dF), (16, dF), (17, dC), (18, d0), (19, dN), (20, dF), (21, dF), (22, dC), (23, d0), (24, dN), (25, dF), (26, dC), (27, dF), (28, dF), (29, d0), (30, dN), (31, dF), (32, dF), (33, dC), (34, d0), (35, dN), (36, dF), (39, dF), (37, dC), (38, dF), (40, dC), (41, dF), (42, d0), (43, dN), (44, dC), (45, d0), (46, dN)] (.adj [] (.adj [.drop 0] .nil)))))) (.dr [(0, dN), (1, dN), (2, ⟨none, .callP true [] (halterlaw29_same.R t8), false⟩), (3, dN), (4, dT), (5, dT), (6, dT), (7, d1), (8, dN), (9, dF), (10, dC), (11, dF), (12, dF), (13, d0), (14, dN), (15, dF), (16, dF), (17, dC), (18, d0), (19, dN), (20, dF), (21, dF), (22, dC), (23, d0), (24, dN), (25, dF), (26, dC), (27, dF), (28, dF), (29, d0), (30, dN), (31, dF), (32, dF), (33, dC), (34, d0), (35, dN), (36, dF), (39, dF), (37, dC), (38, dF), (40, dC), (41, dF), (42, d0), (43, dN), (44, dC), (45, d0), (46, dN)] (.adj [] (.adj [.drop 0] .nil)))) (.dr [(0, dN), (1, dN), (2, ⟨none, .callP true [] (halterlaw29_same.R t8), false⟩), (3, dN), (4, dF), (5, dF), (6, dF), (7, d0), (8, dN), (9, dF), (10, dC), (11, dF), (12, dF), (13, d0), (14, dN), (15, dF), (16, dF), (17, dC), (18, d0), (19, dN), (20, dF), (21, dF), (22, dC), (23, d0), (24, dN), (25, dF), (26, dC), (27, dF), (28, dF), (29, d0), (30, dN), (31, dF), (32, dF), (33, dC), (34, d0), (35, dN), (36, dF), (39, dF), (37, dC), (38, dF), (40, dC), (41, dF), (42, d0), (43, dN), (44, dC), (45, d0), (46, dN)] (.adj [] (.adj [.drop 0] .nil)))))))))))))))))) (to_goal (q := (True) ∧ (True) ∧ (((decide ((((List.length a0) : Nat) : Int) > (120 : Int))) = true → (∃ t2 : Bool, (Fun cfg 4 [] [] (halterlaw29_sure.R t2) [] ∧ True) ∧ (True ∧ ((True) ∧ ((True) ∧ True) ∧ (.v (.one (.sc (.bool t2))) : Tm) = halterlaw29_AlarmSteps.R r ∧ ([] : List Box) = [])))) ∧ ((decide ((((List.length a0) : Nat) : Int) > (120 : Int))) = false → (∃ t3 : (List (Int × Int)), (Fun cfg 5 [.one (.fs (.pair (.int .i64) (.int .i64)) a0 false)] [] (halterlaw29_give.R t3) [] ∧ True) ∧ (0 ≤ (0 : Int) ∧ (0 : Int) < ((3 : Nat) : Int)) ∧ (0 < 3) ∧ (0 ≤ (1 : Int) ∧ (1 : Int) < ((3 : Nat) : Int)) ∧ (1 < 3) ∧ (0 ≤ (2 : Int) ∧ (2 : Int) < ((3 : Nat) : Int)) ∧ (2 < 3) ∧ (∃ t4 : (List (Int × Int)) × Int × (Option Int), (Fun cfg 6 [.one (.fs (.pair (.int .i64) (.int .i64)) t3 false), .one (.sc (.int .i64 (List.getD a1 0 (0 : Int)))), .one (.sc (.int .i64 (List.getD a1 1 (0 : Int)))), .one (.sc (.int .i64 (List.getD a1 2 (0 : Int))))] [] (alarm_Set.R t4) [] ∧ True) ∧ (0 ≤ (0 : Int) ∧ (0 : Int) < ((3 : Nat) : Int)) ∧ (0 < 3) ∧ (0 ≤ (1 : Int) ∧ (1 : Int) < ((3 : Nat) : Int)) ∧ (1 < 3) ∧ (0 ≤ (2 : Int) ∧ (2 : Int) < ((3 : Nat) : Int)) ∧ (2 < 3) ∧ (∃ t5 : (List (Int × Int)) × Int × Int, (Fun cfg 7 [.one (.fs (.pair (.int .i64) (.int .i64)) a0 false), .one (.sc (.int .i64 (List.getD a1 0 (0 : Int)))), .one (.sc (.int .i64 (List.getD a1 1 (0 : Int)))), .one (.sc (.int .i64 (List.getD a1 2 (0 : Int))))] [] (halterref29_Set.R t5) [] ∧ True) ∧ (0 ≤ (1 : Int) ∧ (1 : Int) < ((3 : Nat) : Int)) ∧ (1 < 3) ∧ (∃ t6 : (List Int) × (List (Int × Int)) × (Option Int), (Fun cfg 8 [.one (.fs (.pair (.int .i64) (.int .i64)) t3 false), .one (.sc (.int .i64 (List.getD a1 1 (0 : Int))))] [] (alarm_Due.R t6) [] ∧ True) ∧ (0 ≤ (1 : Int) ∧ (1 : Int) < ((3 : Nat) : Int)) ∧ (1 < 3) ∧ (∃ t7 : (List Int) × (List (Int × Int)) × Int, (Fun cfg 9 [.one (.fs (.pair (.int .i64) (.int .i64)) a0 false), .one (.sc (.int .i64 (List.getD a1 1 (0 : Int))))] [] (halterref29_Due.R t7) [] ∧ True) ∧ (∃ t8 : Bool, ((t8 = true → (((t4.2.1 == t5.2.1) = true → (∃ t11 : Int, (((t11 == (z2 t5)) = true → (∃ t13 : Bool, ((t13 = true → (∃ t15 : Bool, ((t15 = true → (∃ t17 : Int, (((t17 == (z2 t7)) = true → (∃ t19 : Bool, ((t19 = true → (∃ t21 : (Option Int), (∃ t22 : Bool, ((((Option.isNone t21) == t22) = true → (∃ t24 : Bool, (Fun cfg 10 [.one (.fs (.pair (.int .i64) (.int .i64)) t4.1 false), .one (.fs (.pair (.int .i64) (.int .i64)) t5.1 false)] [] (halterlaw29_same.R t8) [] ∧ True) ∧ (t8 = true ∧ True) ∧ (t8 = true ∧ True) ∧ (t8 = true ∧ True) ∧ (t8 = true) ∧ ((t4.2.1 == t5.2.1) = true ∧ True) ∧ ((t4.2.1 == t5.2.1) = true ∧ Fun cfg 11 [.one (.err (z2 t4))] [] (num.R t11) [] ∧ True) ∧ ((t4.2.1 == t5.2.1) = true ∧ True) ∧ ((t4.2.1 == t5.2.1) = true ∧ True) ∧ ((t4.2.1 == t5.2.1) = true) ∧ ((t11 == (z2 t5)) = true ∧ True) ∧ ((t11 == (z2 t5)) = true ∧ True) ∧ ((t11 == (z2 t5)) = true ∧ Fun cfg 12 [.one (.fs (.int .i64) t6.1 false), .one (.fs (.int .i64) t7.1 false)] [] (halterlaw29_ints.R t13) [] ∧ True) ∧ ((t11 == (z2 t5)) = true) ∧ (t13 = true ∧ True) ∧ (t13 = true ∧ True) ∧ (t13 = true ∧ Fun cfg 10 [.one (.fs (.pair (.int .i64) (.int .i64)) t6.2.1 false), .one (.fs (.pair (.int .i64) (.int .i64)) t7.2.1 false)] [] (halterlaw29_same.R t15) [] ∧ True) ∧ (t13 = true) ∧ (t15 = true ∧ True) ∧ (t15 = true ∧ Fun cfg 11 [.one (.err (z2 t6))] [] (num.R t17) [] ∧ True) ∧ (t15 = true ∧ True) ∧ (t15 = true ∧ True) ∧ (t15 = true) ∧ ((t17 == (z2 t7)) = true ∧ True) ∧ ((t17 == (z2 t7)) = true ∧ True) ∧ ((t17 == (z2 t7)) = true ∧ Fun cfg 10 [.one (.fs (.pair (.int .i64) (.int .i64)) t3 false), .one (.fs (.pair (.int .i64) (.int .i64)) a0 false)] [] (halterlaw29_same.R t19) [] ∧ True) ∧ ((t17 == (z2 t7)) = true) ∧ (t19 = true ∧ True) ∧ (t19 = true ∧ True) ∧ (t19 = true ∧ Fun cfg 13 [.one (.fs (.pair (.int .i64) (.int .i64)) t3 false)] [] (alarm_Check.R t21) [] ∧ True) ∧ (t19 = true ∧ True) ∧ (t19 = true ∧ Fun cfg 14 [.one (.fs (.pair (.int .i64) (.int .i64)) a0 false)] [] (halterref29_May.R t22) [] ∧ True) ∧ (t19 = true ∧ True) ∧ (t19 = true) ∧ (((Option.isNone t21) == t22) = true ∧ Fun cfg 4 [] [] (halterlaw29_sure.R t24) [] ∧ True) ∧ (((Option.isNone t21) == t22) = true) ∧ (True ∧ ((True) ∧ ((True) ∧ True) ∧ (.v (.one (.sc (.bool t24))) : Tm) = halterlaw29_AlarmSteps.R r ∧ ([] : List Box) = [])))) ∧ (((Option.isNone t21) == t22) = false → (Fun cfg 10 [.one (.fs (.pair (.int .i64) (.int .i64)) t4.1 false), .one (.fs (.pair (.int .i64) (.int .i64)) t5.1 false)] [] (halterlaw29_same.R t8) [] ∧ True) ∧ (t8 = true ∧ True) ∧ (t8 = true ∧ True) ∧ (t8 = true ∧ True) ∧ (t8 = true) ∧ ((t4.2.1 == t5.2.1) = true ∧ True) ∧ ((t4.2.1 == t5.2.1) = true ∧ Fun cfg 11 [.one (.err (z2 t4))] [] (num.R t11) [] ∧ True) ∧ ((t4.2.1 == t5.2.1) = true ∧ True) ∧ ((t4.2.1 == t5.2.1) = true ∧ True) ∧ ((t4.2.1 == t5.2.1) = true) ∧ ((t11 == (z2 t5)) = true ∧ True) ∧ ((t11 == (z2 t5)) = true ∧ True) ∧ ((t11 == (z2 t5)) = true ∧ Fun cfg 12 [.one (.fs (.int .i64) t6.1 false), .one (.fs (.int .i64) t7.1 false)] [] (halterlaw29_ints.R t13) [] ∧ True) ∧ ((t11 == (z2 t5)) = true) ∧ (t13 = true ∧ True) ∧ (t13 = true ∧ True) ∧ (t13 = true ∧ Fun cfg 10 [.one (.fs (.pair (.int .i64) (.int .i64)) t6.2.1 false), .one (.fs (.pair (.int .i64) (.int .i64)) t7.2.1 false)] [] (halterlaw29_same.R t15) [] ∧ True) ∧ (t13 = true) ∧ (t15 = true ∧ True) ∧ (t15 = true ∧ Fun cfg 11 [.one (.err (z2 t6))] [] (num.R t17) [] ∧ True) ∧ (t15 = true ∧ True) ∧ (t15 = true ∧ True) ∧ (t15 = true) ∧ ((t17 == (z2 t7)) = true ∧ True) ∧ ((t17 == (z2 t7)) = true ∧ True) ∧ ((t17 == (z2 t7)) = true ∧ Fun cfg 10 [.one (.fs (.pair (.int .i64) (.int .i64)) t3 false), .one (.fs (.pair (.int .i64) (.int .i64)) a0 false)] [] (halterlaw29_same.R t19) [] ∧ True) ∧ ((t17 == (z2 t7)) = true) ∧ (t19 = true ∧ True) ∧ (t19 = true ∧ True) ∧ (t19 = true ∧ Fun cfg 13 [.one (.fs (.pair (.int .i64) (.int .i64)) t3 false)] [] (alarm_Check.R t21) [] ∧ True) ∧ (t19 = true ∧ True) ∧ (t19 = true ∧ Fun cfg 14 [.one (.fs (.pair (.int .i64) (.int .i64)) a0 false)] [] (halterref29_May.R t22) [] ∧ True) ∧ (t19 = true ∧ True) ∧ (t19 = true) ∧ (((Option.isNone t21) == t22) = false) ∧ (((Option.isNone t21) == t22) = false) ∧ (True ∧ ((True) ∧ ((True) ∧ True) ∧ (.v (.one (.sc (.bool false))) : Tm) = halterlaw29_AlarmSteps.R r ∧ ([] : List Box) = []))))))) ∧ (t19 = false → (Fun cfg 10 [.one (.fs (.pair (.int .i64) (.int .i64)) t4.1 false), .one (.fs (.pair (.int .i64) (.int .i64)) t5.1 false)] [] (halterlaw29_same.R t8) [] ∧ True) ∧ (t8 = true ∧ True) ∧ (t8 = true ∧ True) ∧ (t8 = true ∧ True) ∧ (t8 = true) ∧ ((t4.2.1 == t5.2.1) = true ∧ True) ∧ ((t4.2.1 == t5.2.1) = true ∧ Fun cfg 11 [.one (.err (z2 t4))] [] (num.R t11) [] ∧ True) ∧ ((t4.2.1 == t5.2.1) = true ∧ True) ∧ ((t4.2.1 == t5.2.1) = true ∧ True) ∧ ((t4.2.1 == t5.2.1) = true) ∧ ((t11 == (z2 t5)) = true ∧ True) ∧ ((t11 == (z2 t5)) = true ∧ True) ∧ ((t11 == (z2 t5)) = true ∧ Fun cfg 12 [.one (.fs (.int .i64) t6.1 false), .one (.fs (.int .i64) t7.1 false)] [] (halterlaw29_ints.R t13) [] ∧ True) ∧ ((t11 == (z2 t5)) = true) ∧ (t13 = true ∧ True) ∧ (t13 = true ∧ True) ∧ (t13 = true ∧ Fun cfg 10 [.one (.fs (.pair (.int .i64) (.int .i64)) t6.2.1 false), .one (.fs (.pair (.int .i64) (.int .i64)) t7.2.1 false)] [] (halterlaw29_same.R t15) [] ∧ True) ∧ (t13 = true) ∧ (t15 = true ∧ True) ∧ (t15 = true ∧ Fun cfg 11 [.one (.err (z2 t6))] [] (num.R t17) [] ∧ True) ∧ (t15 = true ∧ True) ∧ (t15 = true ∧ True) ∧ (t15 = true) ∧ ((t17 == (z2 t7)) = true ∧ True) ∧ ((t17 == (z2 t7)) = true ∧ True) ∧ ((t17 == (z2 t7)) = true ∧ Fun cfg 10 [.one (.fs (.pair (.int .i64) (.int .i64)) t3 false), .one (.fs (.pair (.int .i64) (.int .i64)) a0 false)] [] (halterlaw29_same.R t19) [] ∧ True) ∧ ((t17 == (z2 t7)) = true) ∧ (t19 = false) ∧ (t19 = false) ∧ (t19 = false) ∧ (t19 = false) ∧ (t19 = false) ∧ (t19 = false) ∧ (t19 = false) ∧ (false = false) ∧ (false = false) ∧ (True ∧ ((True) ∧ ((True) ∧ True) ∧ (.v (.one (.sc (.bool false))) : Tm) = halterlaw29_AlarmSteps.R r ∧ ([] : List Box) = [])))))) ∧ ((t17 == (z2 t7)) = false → (Fun cfg 10 [.one (.fs (.pair (.int .i64) (.int .i64)) t4.1 false), .one (.fs (.pair (.int .i64) (.int .i64)) t5.1 false)] [] (halterlaw29_same.R t8) [] ∧ True) ∧ (t8 = true ∧ True) ∧ (t8 = true ∧ True) ∧ (t8 = true ∧ True) ∧ (t8 = true) ∧ ((t4.2.1 == t5.2.1) = true ∧ True) ∧ ((t4.2.1 == t5.2.1) = true ∧ Fun cfg 11 [.one (.err (z2 t4))] [] (num.R t11) [] ∧ True) ∧ ((t4.2.1 == t5.2.1) = true ∧ True) ∧ ((t4.2.1 == t5.2.1) = true ∧ True) ∧ ((t4.2.1 == t5.2.1) = true) ∧ ((t11 == (z2 t5)) = true ∧ True) ∧ ((t11 == (z2 t5)) = true ∧ True) ∧ ((t11 == (z2 t5)) = true ∧ Fun cfg 12 [.one (.fs (.int .i64) t6.1 false), .one (.fs (.int .i64) t7.1 false)] [] (halterlaw29_ints.R t13) [] ∧ True) ∧ ((t11 == (z2 t5)) = true) ∧ (t13 = true ∧ True) ∧ (t13 = true ∧ True) ∧ (t13 = true ∧ Fun cfg 10 [.one (.fs (.pair (.int .i64) (.int .i64)) t6.2.1 false), .one (.fs (.pair (.int .i64) (.int .i64)) t7.2.1 false)] [] (halterlaw29_same.R t15) [] ∧ True) ∧ (t13 = true) ∧ (t15 = true ∧ True) ∧ (t15 = true ∧ Fun cfg 11 [.one (.err (z2 t6))] [] (num.R t17) [] ∧ True) ∧ (t15 = true ∧ True) ∧ (t15 = true ∧ True) ∧ (t15 = true) ∧ ((t17 == (z2 t7)) = false) ∧ ((t17 == (z2 t7)) = false) ∧ ((t17 == (z2 t7)) = false) ∧ ((t17 == (z2 t7)) = false) ∧ (false = false) ∧ (false = false) ∧ (false = false) ∧ (false = false) ∧ (false = false) ∧ (false = false) ∧ (false = false) ∧ (false = false) ∧ (false = false) ∧ (True ∧ ((True) ∧ ((True) ∧ True) ∧ (.v (.one (.sc (.bool false))) : Tm) = halterlaw29_AlarmSteps.R r ∧ ([] : List Box) = [])))))) ∧ (t15 = false → (Fun cfg 10 [.one (.fs (.pair (.int .i64) (.int .i64)) t4.1 false), .one (.fs (.pair (.int .i64) (.int .i64)) t5.1 false)] [] (halterlaw29_same.R t8) [] ∧ True) ∧ (t8 = true ∧ True) ∧ (t8 = true ∧ True) ∧ (t8 = true ∧ True) ∧ (t8 = true) ∧ ((t4.2.1 == t5.2.1) = true ∧ True) ∧ ((t4.2.1 == t5.2.1) = true ∧ Fun cfg 11 [.one (.err (z2 t4))] [] (num.R t11) [] ∧ True) ∧ ((t4.2.1 == t5.2.1) = true ∧ True) ∧ ((t4.2.1 == t5.2.1) = true ∧ True) ∧ ((t4.2.1 == t5.2.1) = true) ∧ ((t11 == (z2 t5)) = true ∧ True) ∧ ((t11 == (z2 t5)) = true ∧ True) ∧ ((t11 == (z2 t5)) = true ∧ Fun cfg 12 [.one (.fs (.int .i64) t6.1 false), .one (.fs (.int .i64) t7.1 false)] [] (halterlaw29_ints.R t13) [] ∧ True) ∧ ((t11 == (z2 t5)) = true) ∧ (t13 = true ∧ True) ∧ (t13 = true ∧ True) ∧ (t13 = true ∧ Fun cfg 10 [.one (.fs (.pair (.int .i64) (.int .i64)) t6.2.1 false), .one (.fs (.pair (.int .i64) (.int .i64)) t7.2.1 false)] [] (halterlaw29_same.R t15) [] ∧ True) ∧ (t13 = true) ∧ (t15 = false) ∧ (t15 = false) ∧ (t15 = false) ∧ (t15 = false) ∧ (t15 = false) ∧ (false = false) ∧ (false = false) ∧ (false = false) ∧ (false = false) ∧ (false = false) ∧ (false = false) ∧ (false = false) ∧ (false = false) ∧ (false = false) ∧ (false = false) ∧ (false = false) ∧ (false = false) ∧ (false = false) ∧ (True ∧ ((True) ∧ ((True) ∧ True) ∧ (.v (.one (.sc (.bool false))) : Tm) = halterlaw29_AlarmSteps.R r ∧ ([] : List Box) = [])))))) ∧ (t13 = false → (Fun cfg 10 [.one (.fs (.pair (.int .i64) (.int .i64)) t4.1 false), .one (.fs (.pair (.int .i64) (.int .i64)) t5.1 false)] [] (halterlaw29_same.R t8) [] ∧ True) ∧ (t8 = true ∧ True) ∧ (t8 = true ∧ True) ∧ (t8 = true ∧ True) ∧ (t8 = true) ∧ ((t4.2.1 == t5.2.1) = true ∧ True) ∧ ((t4.2.1 == t5.2.1) = true ∧ Fun cfg 11 [.one (.err (z2 t4))] [] (num.R t11) [] ∧ True) ∧ ((t4.2.1 == t5.2.1) = true ∧ True) ∧ ((t4.2.1 == t5.2.1) = true ∧ True) ∧ ((t4.2.1 == t5.2.1) = true) ∧ ((t11 == (z2 t5)) = true ∧ True) ∧ ((t11 == (z2 t5)) = true ∧ True) ∧ ((t11 == (z2 t5)) = true ∧ Fun cfg 12 [.one (.fs (.int .i64) t6.1 false), .one (.fs (.int .i64) t7.1 false)] [] (halterlaw29_ints.R t13) [] ∧ True) ∧ ((t11 == (z2 t5)) = true) ∧ (t13 = false) ∧ (t13 = false) ∧ (t13 = false) ∧ (t13 = false) ∧ (false = false) ∧ (false = false) ∧ (false = false) ∧ (false = false) ∧ (false = false) ∧ (false = false) ∧ (false = false) ∧ (false = false) ∧ (false = false) ∧ (false = false) ∧ (false = false) ∧ (false = false) ∧ (false = false) ∧ (false = false) ∧ (false = false) ∧ (false = false) ∧ (false = false) ∧ (false = false) ∧ (True ∧ ((True) ∧ ((True) ∧ True) ∧ (.v (.one (.sc (.bool false))) : Tm) = halterlaw29_AlarmSteps.R r ∧ ([] : List Box) = [])))))) ∧ ((t11 == (z2 t5)) = false → (Fun cfg 10 [.one (.fs (.pair (.int .i64) (.int .i64)) t4.1 false), .one (.fs (.pair (.int .i64) (.int .i64)) t5.1 false)] [] (halterlaw29_same.R t8) [] ∧ True) ∧ (t8 = true ∧ True) ∧ (t8 = true ∧ True) ∧ (t8 = true ∧ True) ∧ (t8 = true) ∧ ((t4.2.1 == t5.2.1) = true ∧ True) ∧ ((t4.2.1 == t5.2.1) = true ∧ Fun cfg 11 [.one (.err (z2 t4))] [] (num.R t11) [] ∧ True) ∧ ((t4.2.1 == t5.2.1) = true ∧ True) ∧ ((t4.2.1 == t5.2.1) = true ∧ True) ∧ ((t4.2.1 == t5.2.1) = true) ∧ ((t11 == (z2 t5)) = false) ∧ ((t11 == (z2 t5)) = false) ∧ ((t11 == (z2 t5)) = false) ∧ ((t11 == (z2 t5)) = false) ∧ (false = false) ∧ (false = false) ∧ (false = false) ∧ (false = false) ∧ (false = false) ∧ (false = false) ∧ (false = false) ∧ (false = false) ∧ (false = false) ∧ (false = false) ∧ (false = false) ∧ (false = false) ∧ (false = false) ∧ (false = false) ∧ (false = false) ∧ (false = false) ∧ (false = false) ∧ (false = false) ∧ (false = false) ∧ (false = false) ∧ (false = false) ∧ (false = false) ∧ (True ∧ ((True) ∧ ((True) ∧ True) ∧ (.v (.one (.sc (.bool false))) : Tm) = halterlaw29_AlarmSteps.R r ∧ ([] : List Box) = [])))))) ∧ ((t4.2.1 == t5.2.1) = false → (Fun cfg 10 [.one (.fs (.pair (.int .i64) (.int .i64)) t4.1 false), .one (.fs (.pair (.int .i64) (.int .i64)) t5.1 false)] [] (halterlaw29_same.R t8) [] ∧ True) ∧ (t8 = true ∧ True) ∧ (t8 = true ∧ True) ∧ (t8 = true ∧ True) ∧ (t8 = true) ∧ ((t4.2.1 == t5.2.1) = false) ∧ ((t4.2.1 == t5.2.1) = false) ∧ ((t4.2.1 == t5.2.1) = false) ∧ ((t4.2.1 == t5.2.1) = false) ∧ ((t4.2.1 == t5.2.1) = false) ∧ (false = false) ∧ (false = false) ∧ (false = false) ∧ (false = false) ∧ (false = false) ∧ (false = false) ∧ (false = false) ∧ (false = false) ∧ (false = false) ∧ (false = false) ∧ (false = false) ∧ (false = false) ∧ (false = false) ∧ (false = false) ∧ (false = false) ∧ (false = false) ∧ (false = false) ∧ (false = false) ∧ (false = false) ∧ (false = false) ∧ (false = false) ∧ (false = false) ∧ (false = false) ∧ (false = false) ∧ (false = false) ∧ (false = false) ∧ (True ∧ ((True) ∧ ((True) ∧ True) ∧ (.v (.one (.sc (.bool false))) : Tm) = halterlaw29_AlarmSteps.R r ∧ ([] : List Box) = []))))) ∧ (t8 = false → (Fun cfg 10 [.one (.fs (.pair (.int .i64) (.int .i64)) t4.1 false), .one (.fs (.pair (.int .i64) (.int .i64)) t5.1 false)] [] (halterlaw29_same.R t8) [] ∧ True) ∧ (t8 = false) ∧ (t8 = false) ∧ (t8 = false) ∧ (t8 = false) ∧ (false = false) ∧ (false = false) ∧ (false = false) ∧ (false = false) ∧ (false = false) ∧ (false = false) ∧ (false = false) ∧ (false = false) ∧ (false = false) ∧ (false = false) ∧ (false = false) ∧ (false = false) ∧ (false = false) ∧ (false = false) ∧ (false = false) ∧ (false = false) ∧ (false = false) ∧ (false = false) ∧ (false = false) ∧ (false = false) ∧ (false = false) ∧ (false = false) ∧ (false = false) ∧ (false = false) ∧ (false = false) ∧ (false = false) ∧ (false = false) ∧ (false = false) ∧ (false = false) ∧ (false = false) ∧ (false = false) ∧ (True ∧ ((True) ∧ ((True) ∧ True) ∧ (.v (.one (.sc (.bool false))) : Tm) = halterlaw29_AlarmSteps.R r ∧ ([] : List Box) = []))))))))))))) (by kernel_rfl) ?_)
  refine ⟨trivial, trivial, ?_⟩
  refine ⟨fun b1 => ?_, fun b1 => ?_⟩
  · rw [if_pos (of_decide_eq_true b1)] at h
    obtain ⟨t2, ht2, h⟩ := of_bind h
    refine ⟨t2, ⟨halterlaw29_sure.fun_ ht2, trivial⟩, ?_⟩
    refine ⟨trivial, ?_⟩
    obtain rfl := Option.some.inj h
    exact ⟨trivial, ⟨trivial, trivial⟩, rfl, rfl⟩
  · rw [if_neg (of_decide_eq_false b1)] at h
    obtain ⟨t3, ht3, h⟩ := of_bind h
    refine ⟨t3, ⟨halterlaw29_give.fun_ ht3, trivial⟩, ?_⟩
    refine ⟨(by decide), ?_⟩
    refine ⟨(by decide), ?_⟩
    refine ⟨(by decide), ?_⟩
    refine ⟨(by decide), ?_⟩
    refine ⟨(by decide), ?_⟩
    refine ⟨(by decide), ?_⟩
    obtain ⟨t4, ht4, h⟩ := of_bind h
    refine ⟨t4, ⟨alarm_Set.fun_ ht4, trivial⟩, ?_⟩
    refine ⟨(by decide), ?_⟩
    refine ⟨(by decide), ?_⟩
    refine ⟨(by decide), ?_⟩
    refine ⟨(by decide), ?_⟩
    refine ⟨(by decide), ?_⟩
    refine ⟨(by decide), ?_⟩
    obtain ⟨t5, ht5, h⟩ := of_bind h
    refine ⟨t5, ⟨halterref29_Set.fun_ ht5, trivial⟩, ?_⟩
    refine ⟨(by decide), ?_⟩
    refine ⟨(by decide), ?_⟩
    obtain ⟨t6, ht6, h⟩ := of_bind h
    refine ⟨t6, ⟨alarm_Due.fun_ ht6, trivial⟩, ?_⟩
    refine ⟨(by decide), ?_⟩
    refine ⟨(by decide), ?_⟩
    obtain ⟨t7, ht7, h⟩ := of_bind h
    refine ⟨t7, ⟨halterref29_Due.fun_ ht7, trivial⟩, ?_⟩
    obtain ⟨t8, ht8, h⟩ := of_bind h
    refine ⟨t8, ?_⟩
    refine ⟨fun b9 => ?_, fun b9 => ?_⟩
    · rw [if_pos b9] at h
      refine ⟨fun b10 => ?_, fun b10 => ?_⟩
      · rw [if_pos (beq_t b10)] at h
        obtain ⟨t11, ht11, h⟩ := of_bind h
        refine ⟨t11, ?_⟩
        refine ⟨fun b12 => ?_, fun b12 => ?_⟩
        · rw [if_pos (beq_t b12)] at h
          obtain ⟨t13, ht13, h⟩ := of_bind h
          refine ⟨t13, ?_⟩
          refine ⟨fun b14 => ?_, fun b14 => ?_⟩
          · rw [if_pos b14] at h
            obtain ⟨t15, ht15, h⟩ := of_bind h
            refine ⟨t15, ?_⟩
            refine ⟨fun b16 => ?_, fun b16 => ?_⟩
            · rw [if_pos b16] at h
              obtain ⟨t17, ht17, h⟩ := of_bind h
              refine ⟨t17, ?_⟩
              refine ⟨fun b18 => ?_, fun b18 => ?_⟩
              · rw [if_pos (beq_t b18)] at h
                obtain ⟨t19, ht19, h⟩ := of_bind h
                refine ⟨t19, ?_⟩
                refine ⟨fun b20 => ?_, fun b20 => ?_⟩
                · rw [if_pos b20] at h
                  obtain ⟨t21, ht21, h⟩ := of_bind h
                  refine ⟨t21, ?_⟩
                  obtain ⟨t22, ht22, h⟩ := of_bind h
                  refine ⟨t22, ?_⟩
                  refine ⟨fun b23 => ?_, fun b23 => ?_⟩
                  · rw [if_pos (bb_t b23)] at h
                    obtain ⟨t24, ht24, h⟩ := of_bind h
                    refine ⟨t24, ?_⟩
                    refine ⟨⟨halterlaw29_same.fun_ ht8, trivial⟩, ⟨b9, trivial⟩, ⟨b9, trivial⟩, ⟨b9, trivial⟩, b9, ⟨b10, trivial⟩, ⟨b10, ⟨num.fun_ ht11, trivial⟩⟩, ⟨b10, trivial⟩, ⟨b10, trivial⟩, b10, ⟨b12, trivial⟩, ⟨b12, trivial⟩, ⟨b12, ⟨halterlaw29_ints.fun_ ht13, trivial⟩⟩, b12, ⟨b14, trivial⟩, ⟨b14, trivial⟩, ⟨b14, ⟨halterlaw29_same.fun_ ht15, trivial⟩⟩, b14, ⟨b16, trivial⟩, ⟨b16, ⟨num.fun_ ht17, trivial⟩⟩, ⟨b16, trivial⟩, ⟨b16, trivial⟩, b16, ⟨b18, trivial⟩, ⟨b18, trivial⟩, ⟨b18, ⟨halterlaw29_same.fun_ ht19, trivial⟩⟩, b18, ⟨b20, trivial⟩, ⟨b20, trivial⟩, ⟨b20, ⟨alarm_Check.fun_ ht21, trivial⟩⟩, ⟨b20, trivial⟩, ⟨b20, ⟨halterref29_May.fun_ ht22, trivial⟩⟩, ⟨b20, trivial⟩, b20, ⟨b23, ⟨halterlaw29_sure.fun_ ht24, trivial⟩⟩, b23, ?_⟩
                    refine ⟨trivial, ?_⟩
                    obtain rfl := Option.some.inj h
                    exact ⟨trivial, ⟨trivial, trivial⟩, rfl, rfl⟩
                  · rw [if_neg (bb_f b23)] at h
                    refine ⟨⟨halterlaw29_same.fun_ ht8, trivial⟩, ⟨b9, trivial⟩, ⟨b9, trivial⟩, ⟨b9, trivial⟩, b9, ⟨b10, trivial⟩, ⟨b10, ⟨num.fun_ ht11, trivial⟩⟩, ⟨b10, trivial⟩, ⟨b10, trivial⟩, b10, ⟨b12, trivial⟩, ⟨b12, trivial⟩, ⟨b12, ⟨halterlaw29_ints.fun_ ht13, trivial⟩⟩, b12, ⟨b14, trivial⟩, ⟨b14, trivial⟩, ⟨b14, ⟨halterlaw29_same.fun_ ht15, trivial⟩⟩, b14, ⟨b16, trivial⟩, ⟨b16, ⟨num.fun_ ht17, trivial⟩⟩, ⟨b16, trivial⟩, ⟨b16, trivial⟩, b16, ⟨b18, trivial⟩, ⟨b18, trivial⟩, ⟨b18, ⟨halterlaw29_same.fun_ ht19, trivial⟩⟩, b18, ⟨b20, trivial⟩, ⟨b20, trivial⟩, ⟨b20, ⟨alarm_Check.fun_ ht21, trivial⟩⟩, ⟨b20, trivial⟩, ⟨b20, ⟨halterref29_May.fun_ ht22, trivial⟩⟩, ⟨b20, trivial⟩, b20, b23, b23, ?_⟩
                    refine ⟨trivial, ?_⟩
                    obtain rfl := Option.some.inj h
                    exact ⟨trivial, ⟨trivial, trivial⟩, rfl, rfl⟩
                · rw [if_neg (ff b20)] at h
                  refine ⟨⟨halterlaw29_same.fun_ ht8, trivial⟩, ⟨b9, trivial⟩, ⟨b9, trivial⟩, ⟨b9, trivial⟩, b9, ⟨b10, trivial⟩, ⟨b10, ⟨num.fun_ ht11, trivial⟩⟩, ⟨b10, trivial⟩, ⟨b10, trivial⟩, b10, ⟨b12, trivial⟩, ⟨b12, trivial⟩, ⟨b12, ⟨halterlaw29_ints.fun_ ht13, trivial⟩⟩, b12, ⟨b14, trivial⟩, ⟨b14, trivial⟩, ⟨b14, ⟨halterlaw29_same.fun_ ht15, trivial⟩⟩, b14, ⟨b16, trivial⟩, ⟨b16, ⟨num.fun_ ht17, trivial⟩⟩, ⟨b16, trivial⟩, ⟨b16, trivial⟩, b16, ⟨b18, trivial⟩, ⟨b18, trivial⟩, ⟨b18, ⟨halterlaw29_same.fun_ ht19, trivial⟩⟩, b18, b20, b20, b20, b20, b20, b20, b20, rfl, rfl, ?_⟩
                  refine ⟨trivial, ?_⟩
                  obtain rfl := Option.some.inj h
                  exact ⟨trivial, ⟨trivial, trivial⟩, rfl, rfl⟩
              · rw [if_neg (beq_f b18)] at h
                refine ⟨⟨halterlaw29_same.fun_ ht8, trivial⟩, ⟨b9, trivial⟩, ⟨b9, trivial⟩, ⟨b9, trivial⟩, b9, ⟨b10, trivial⟩, ⟨b10, ⟨num.fun_ ht11, trivial⟩⟩, ⟨b10, trivial⟩, ⟨b10, trivial⟩, b10, ⟨b12, trivial⟩, ⟨b12, trivial⟩, ⟨b12, ⟨halterlaw29_ints.fun_ ht13, trivial⟩⟩, b12, ⟨b14, trivial⟩, ⟨b14, trivial⟩, ⟨b14, ⟨halterlaw29_same.fun_ ht15, trivial⟩⟩, b14, ⟨b16, trivial⟩, ⟨b16, ⟨num.fun_ ht17, trivial⟩⟩, ⟨b16, trivial⟩, ⟨b16, trivial⟩, b16, b18, b18, b18, b18, rfl, rfl, rfl, rfl, rfl, rfl, rfl, rfl, rfl, ?_⟩
                refine ⟨trivial, ?_⟩
                obtain rfl := Option.some.inj h
                exact ⟨trivial, ⟨trivial, trivial⟩, rfl, rfl⟩
            · rw [if_neg (ff b16)] at h
              refine ⟨⟨halterlaw29_same.fun_ ht8, trivial⟩, ⟨b9, trivial⟩, ⟨b9, trivial⟩, ⟨b9, trivial⟩, b9, ⟨b10, trivial⟩, ⟨b10, ⟨num.fun_ ht11, trivial⟩⟩, ⟨b10, trivial⟩, ⟨b10, trivial⟩, b10, ⟨b12, trivial⟩, ⟨b12, trivial⟩, ⟨b12, ⟨halterlaw29_ints.fun_ ht13, trivial⟩⟩, b12, ⟨b14, trivial⟩, ⟨b14, trivial⟩, ⟨b14, ⟨halterlaw29_same.fun_ ht15, trivial⟩⟩, b14, b16, b16, b16, b16, b16, rfl, rfl, rfl, rfl, rfl, rfl, rfl, rfl, rfl, rfl, rfl, rfl, rfl, ?_⟩
              refine ⟨trivial, ?_⟩
              obtain rfl := Option.some.inj h
              exact ⟨trivial, ⟨trivial, trivial⟩, rfl, rfl⟩
          · rw [if_neg (ff b14)] at h
            refine ⟨⟨halterlaw29_same.fun_ ht8, trivial⟩, ⟨b9, trivial⟩, ⟨b9, trivial⟩, ⟨b9, trivial⟩, b9, ⟨b10, trivial⟩, ⟨b10, ⟨num.fun_ ht11, trivial⟩⟩, ⟨b10, trivial⟩, ⟨b10, trivial⟩, b10, ⟨b12, trivial⟩, ⟨b12, trivial⟩, ⟨b12, ⟨halterlaw29_ints.fun_ ht13, trivial⟩⟩, b12, b14, b14, b14, b14, rfl, rfl, rfl, rfl, rfl, rfl, rfl, rfl, rfl, rfl, rfl, rfl, rfl, rfl, rfl, rfl, rfl, rfl, ?_⟩
            refine ⟨trivial, ?_⟩
            obtain rfl := Option.some.inj h
            exact ⟨trivial, ⟨trivial, trivial⟩, rfl, rfl⟩
        · rw [if_neg (beq_f b12)] at h
          refine ⟨⟨halterlaw29_same.fun_ ht8, trivial⟩, ⟨b9, trivial⟩, ⟨b9, trivial⟩, ⟨b9, trivial⟩, b9, ⟨b10, trivial⟩, ⟨b10, ⟨num.fun_ ht11, trivial⟩⟩, ⟨b10, trivial⟩, ⟨b10, trivial⟩, b10, b12, b12, b12, b12, rfl, rfl, rfl, rfl, rfl, rfl, rfl, rfl, rfl, rfl, rfl, rfl, rfl, rfl, rfl, rfl, rfl, rfl, rfl, rfl, rfl, rfl, ?_⟩
          refine ⟨trivial, ?_⟩
          obtain rfl := Option.some.inj h
          exact ⟨trivial, ⟨trivial, trivial⟩, rfl, rfl⟩
      · rw [if_neg (beq_f b10)] at h
        refine ⟨⟨halterlaw29_same.fun_ ht8, trivial⟩, ⟨b9, trivial⟩, ⟨b9, trivial⟩, ⟨b9, trivial⟩, b9, b10, b10, b10, b10, b10, rfl, rfl, rfl, rfl, rfl, rfl, rfl, rfl, rfl, rfl, rfl, rfl, rfl, rfl, rfl, rfl, rfl, rfl, rfl, rfl, rfl, rfl, rfl, rfl, rfl, rfl, ?_⟩
        refine ⟨trivial, ?_⟩
        obtain rfl := Option.some.inj h
        exact ⟨trivial, ⟨trivial, trivial⟩, rfl, rfl⟩
    · rw [if_neg (ff b9)] at h
      refine ⟨⟨halterlaw29_same.fun_ ht8, trivial⟩, b9, b9, b9, b9, rfl, rfl, rfl, rfl, rfl, rfl, rfl, rfl, rfl, rfl, rfl, rfl, rfl, rfl, rfl, rfl, rfl, rfl, rfl, rfl, rfl, rfl, rfl, rfl, rfl, rfl, rfl, rfl, rfl, rfl, rfl, ?_⟩
      refine ⟨trivial, ?_⟩
      obtain rfl := Option.some.inj h
      exact ⟨trivial, ⟨trivial, trivial⟩, rfl, rfl⟩
end Go.Proofs.YtjpabbkcbohmmaaDoorGAlarmSteps
